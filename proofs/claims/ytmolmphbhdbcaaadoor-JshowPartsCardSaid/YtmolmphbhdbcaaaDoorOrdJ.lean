/- slices.Equal of nodes, and the order by keys that tape.Sorted hands to slices.SortFunc. -/
import Derived.Test.YtmolmphbhdbcaaaDoorHelp
import Derived.Shelf.SlSortCmp.NoneTotal
/-! ### slices.Equal of nodes, and the order by keys that tape.Sorted hands to slices.SortFunc. -/
namespace Go.Proofs.YtmolmphbhdbcaaaDoor
open Go.RowKit Go.Shelf

/-- What the order answers at two keys: never 0. -/
def keyOrd (a b : ByteArray) : Int := bif Op.bytesLess a.toList b.toList then -1 else 1
set_option maxRecDepth 100000 in
set_option maxHeartbeats 400000 in
theorem key_order (i j kb : Nat) (kv : Value) (l : List Nd) (w : World) (hi : i < l.length) (hj : j < l.length) (hkb : w.cell? ⟨kb, 0, none⟩ = some kv) (hkv : NodesIs w kv l) :
    Calls Tryd.prog 57 #[.int .i64 i, .int .i64 j, .pointer (some ⟨kb, 0, none⟩)] w fun e w' => e = .returned (.int .i64 (keyOrd l[i].key l[j].key)) ∧ ∃ q, w' = w.drewN q := by
  obtain ⟨A, ca, rfl, hla, hma, ha⟩ := hkv.nodes
  unfold maxLen at hma
  obtain ⟨b1, o1, rfl, hc1⟩ := ha.resolve_left (by omega)
  obtain ⟨_, x1, _, _, _⟩ := hc1 i hi
  obtain ⟨_, y1, _, _, _⟩ := hc1 j hj
  obtain ⟨K1, hK1⟩ : ∃ K, Hid (l[i].key = K) := ⟨_, hide rfl⟩
  obtain ⟨K2, hK2⟩ : ∃ K, Hid (l[j].key = K) := ⟨_, hide rfl⟩
  rw [hK1.out] at x1 ⊢
  rw [hK2.out] at y1 ⊢
  obtain ⟨n, hn⟩ : ∃ n, l.length = n := ⟨_, rfl⟩
  rw [hn] at hla hkb
  have hi' : i < n := by omega
  have hj' : j < n := by omega
  clear ha hc1 hkv
  go_enter Tryd.func57, Tryd.ntmps57
  go_wp2_with fail
  go_quiet (fail)
  obtain ⟨B, hB⟩ : ∃ B, Hid (Op.bytesLess K1.toList K2.toList = B) := ⟨_, hide rfl⟩
  rw [hB.out]
  cases B
  · go_wp2_with fail
    go_ret
    exact ⟨by rw [keyOrd, hB.out]; rfl, _, rfl⟩
  · go_wp2_with fail
    go_ret
    exact ⟨by rw [keyOrd, hB.out]; rfl, _, rfl⟩
end Go.Proofs.YtmolmphbhdbcaaaDoor

/-! ### The plain law of sorting: a value whose members are ordered by their keys, at every depth. -/
namespace Go.Proofs.YtmolmphbhdbcaaaDoor
open Go.RowKit

def keyLt (a b : ByteArray) : Prop := a.toList < b.toList
theorem bytesLess_lt : ∀ (x y : List UInt8), Op.bytesLess x y = decide (x < y)
  | [], [] => by simp [Op.bytesLess]
  | _ :: _, [] => by simp [Op.bytesLess]
  | [], _ :: _ => by simp [Op.bytesLess]
  | a :: x, b :: y => by
    rw [Op.bytesLess, bytesLess_lt x y]
    simp only [List.cons_lt_cons_iff]
    by_cases h1 : a < b <;> by_cases h2 : a = b <;> by_cases h3 : x < y <;> simp [h1, h2, h3]
theorem less_iff (a b : ByteArray) : Op.bytesLess a.toList b.toList = true ↔ keyLt a b := by
  rw [bytesLess_lt, decide_eq_true_eq]; rfl
theorem keyLt_irrefl (a : ByteArray) : ¬ keyLt a a := List.lt_irrefl _
theorem keyLt_trans {a b c : ByteArray} (h : keyLt a b) (k : keyLt b c) : keyLt a c := List.lt_trans h k
theorem keyLt_asymm {a b : ByteArray} (h : keyLt a b) : ¬ keyLt b a := fun k => keyLt_irrefl _ (keyLt_trans h k)
theorem keyLt_total {a b : ByteArray} (h : ¬ keyLt a b) (hne : a ≠ b) : keyLt b a := by
  rcases Classical.em (keyLt b a) with k | k
  · exact k
  · exact absurd (bytes_ext (List.le_antisymm (List.not_lt.1 k) (List.not_lt.1 h))) hne

/-- one more, at its place -/
def insJ (x : J) : List J → List J
  | [] => [x]
  | y :: l => bif Op.bytesLess x.key.toList y.key.toList then x :: y :: l else y :: insJ x l
def ordJ : List J → List J
  | [] => []
  | x :: l => insJ x (ordJ l)
mutual
def J.sort : J → J
  | .mk h l => .mk h (if h.kind = 7 then ordJ (J.sorts l) else J.sorts l)
def J.sorts : List J → List J
  | [] => []
  | j :: l => J.sort j :: J.sorts l
end
theorem sorts_map : ∀ l, J.sorts l = l.map J.sort
  | [] => by simp [J.sorts]
  | j :: l => by simp [J.sorts, sorts_map l]
theorem sort_hd (j : J) : j.sort.hd = j.hd := by cases j; simp [J.sort, J.hd]
theorem sort_key (j : J) : j.sort.key = j.key := by rw [J.key, J.key, sort_hd]
theorem insJ_perm (x : J) : ∀ l, (insJ x l).Perm (x :: l)
  | [] => .refl _
  | y :: l => by
    rw [insJ]
    cases Op.bytesLess x.key.toList y.key.toList
    · exact ((insJ_perm x l).cons y).trans (List.Perm.swap x y l)
    · exact .refl _
theorem ordJ_perm : ∀ l, (ordJ l).Perm l
  | [] => .refl _
  | x :: l => (insJ_perm x (ordJ l)).trans ((ordJ_perm l).cons x)

/-- each key under all behind it -/
def UpJ (l : List J) : Prop := l.Pairwise fun a b => keyLt a.key b.key
def AptJ (l : List J) : Prop := l.Pairwise fun a b => a.key ≠ b.key
theorem insJ_up {x : J} : ∀ {l : List J}, UpJ l → (∀ y ∈ l, x.key ≠ y.key) → UpJ (insJ x l)
  | [], _, _ => List.pairwise_singleton _ _
  | y :: l, h, hne => by
    obtain ⟨h1, h2⟩ := List.pairwise_cons.1 h
    rw [insJ]
    cases hB : Op.bytesLess x.key.toList y.key.toList
    · have hlt : keyLt y.key x.key := keyLt_total (fun k => by rw [(less_iff _ _).2 k] at hB; exact Bool.noConfusion hB) (hne y (by simp))
      refine List.pairwise_cons.2 ⟨fun z hz => ?_, insJ_up h2 fun z hz => hne z (by simp [hz])⟩
      rcases List.mem_cons.1 ((insJ_perm x l).mem_iff.1 hz) with e | hz
      · rw [e]; exact hlt
      · exact h1 z hz
    · have hlt := (less_iff _ _).1 hB
      refine List.pairwise_cons.2 ⟨fun z hz => ?_, h⟩
      rcases List.mem_cons.1 hz with e | hz
      · rw [e]; exact hlt
      · exact keyLt_trans hlt (h1 z hz)
theorem ordJ_up : ∀ {l : List J}, AptJ l → UpJ (ordJ l)
  | [], _ => List.Pairwise.nil
  | x :: l, h => by
    obtain ⟨h1, h2⟩ := List.pairwise_cons.1 h
    exact insJ_up (ordJ_up h2) fun y hy => h1 y ((ordJ_perm l).mem_iff.1 hy)
theorem up_unique : ∀ {a b : List J}, a.Perm b → UpJ a → UpJ b → a = b
  | [], b, hp, _, _ => (List.nil_perm.1 hp).symm
  | x :: a, [], hp, _, _ => absurd hp.length_eq (by simp)
  | x :: a, y :: b, hp, ha, hb => by
    obtain ⟨a1, a2⟩ := List.pairwise_cons.1 ha
    obtain ⟨b1, b2⟩ := List.pairwise_cons.1 hb
    have hxy : x = y := by
      rcases List.mem_cons.1 (hp.mem_iff.1 (List.mem_cons_self (a := x) (l := a))) with e | hx
      · exact e
      rcases List.mem_cons.1 (hp.mem_iff.2 (List.mem_cons_self (a := y) (l := b))) with e | hy
      · exact e.symm
      exact absurd (a1 y hy) (keyLt_asymm (b1 x hx))
    subst hxy
    rw [up_unique (List.Perm.cons_inv hp) a2 b2]
/-- whatever order by keys the sort found: it is this one -/
theorem ord_found {l l' : List J} (hp : l'.Perm l) (h : AptJ l) (hu : UpJ l') : l'.map J.sort = ordJ (J.sorts l) := by
  have key : ∀ m : List J, UpJ m → UpJ (m.map J.sort) := fun m hm => List.pairwise_map.2 (hm.imp fun {a b} hab => by rw [sort_key, sort_key]; exact hab)
  have hA : AptJ (J.sorts l) := by rw [sorts_map]; exact List.pairwise_map.2 (h.imp fun {a b} hab => by rw [sort_key, sort_key]; exact hab)
  refine up_unique ?_ (key _ hu) (ordJ_up hA)
  refine List.Perm.trans ?_ (ordJ_perm _).symm
  rw [sorts_map]
  exact hp.map _
theorem flats_perm {l l' : List J} (hp : l.Perm l') : (J.flats l).length = (J.flats l').length := by
  induction hp with
  | nil => rfl
  | cons x _ ih => simp [J.flats, ih]
  | swap x y l => simp [J.flats]; omega
  | trans _ _ ih1 ih2 => rw [ih1, ih2]
theorem sort_len : (∀ j : J, j.sort.flat.length = j.flat.length) ∧ ∀ l : List J, (J.flats (J.sorts l)).length = (J.flats l).length := by
  refine J.both ?_ ?_ ?_
  · intro h l ih
    rw [J.sort, flat_mk, flat_mk, List.length_cons, List.length_cons]
    split
    · rw [flats_perm (ordJ_perm _), ih]
    · rw [ih]
  · simp [J.sorts, J.flats]
  · intro j l h1 h2; simp [J.sorts, J.flats, h1, h2]
theorem apt_of_keys (V : ByteArray → Bool) : ∀ (l : List J) (had : List ByteArray), keysOk V had (l.map J.key) → AptJ l ∧ ∀ j ∈ l, j.key ∉ had
  | [], _, _ => ⟨List.Pairwise.nil, fun _ h => absurd h (by simp)⟩
  | j :: l, had, h => by
    obtain ⟨_, h2, h3⟩ := h
    obtain ⟨k1, k2⟩ := apt_of_keys V l (had ++ [j.key]) h3
    refine ⟨List.pairwise_cons.2 ⟨fun x hx e => k2 x hx (by rw [← e]; simp), k1⟩, fun x hx => ?_⟩
    rcases List.mem_cons.1 hx with e | hx
    · rw [e]; exact h2
    · exact fun hh => k2 x hx (by simp [hh])
end Go.Proofs.YtmolmphbhdbcaaaDoor

