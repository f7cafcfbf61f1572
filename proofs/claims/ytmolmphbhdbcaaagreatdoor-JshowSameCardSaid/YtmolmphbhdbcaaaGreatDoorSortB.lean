/- slices.Equal of nodes, and the order by keys that tape.Sorted hands to slices.SortFunc. -/
import Derived.Test.YtmolmphbhdbcaaaGreatDoorWhole
import Derived.Shelf.SlSortCmp.NoneTotal
import Derived.Test.YtmolmphbhdbcaaaGreatDoorProg
import Derived.Ground.SlsfProg
import Derived.Ground.NamesProg
import Derived.Sort.OwnSortedInts
/-! ### slices.Equal of nodes, and the order by keys that tape.Sorted hands to slices.SortFunc. -/
/-! ### slices.Equal of nodes, and the order by keys that tape.Sorted hands to slices.SortFunc. -/
namespace Go.Proofs.YtmolmphbhdbcaaaGreatDoor
open Go.RowKit Go.Shelf

set_option maxRecDepth 100000 in
set_option maxHeartbeats 400000 in
theorem slices_Equal (va vb : Value) (a b : List Nd) (w : World) (ha : NodesIs w va a) (hb : NodesIs w vb b) :
    Calls Tryz.prog 33 #[va, vb] w fun e w' => e = .returned (.bool (sameNds a b)) ∧ Old w w' := by
  have hG := nodeGuard
  obtain ⟨A, ca, rfl, hla, hma, ha⟩ := ha.nodes
  obtain ⟨B, cb, rfl, hlb, hmb, hb⟩ := hb.nodes
  unfold maxLen at hma hmb
  go_enter Tryz.func33, Tryz.ntmps33
  by_cases hl : a.length = b.length
  · have hl' : ((a.length : Int) != (b.length : Int)) = false := by simp [hl]
    have HL := hide hl
    have hl1 : a.length ≤ b.length := by omega
    have hl2 : b.length ≤ a.length := by omega
    clear hl
    go_wp2_with fail
    go_loopw [13] (fun i wr => ∃ k : Nat, i = .int .i64 k ∧ k ≤ a.length ∧ Hid (∀ j : Nat, j < k → a[j]? = b[j]?) ∧ Old w wr) (fun i _ => a.length - (intOf i).toNat)
    case atStart => exact ⟨0, rfl, by omega, hide (by intro j hj; omega), Old.refl _⟩
    case round =>
      obtain ⟨k, rfl, hk, HQ, hbl⟩ := hrel
      by_cases hlt : k < a.length
      · have hlt' : k < b.length := by omega
        obtain ⟨b1, o1, rfl, hc1⟩ := ha.resolve_left (by omega)
        obtain ⟨b2, o2, rfl, hc2⟩ := hb.resolve_left (by omega)
        obtain ⟨x0, x1, x2, x3, x4⟩ := hc1 k hlt
        obtain ⟨y0, y1, y2, y3, y4⟩ := hc2 k hlt'
        have hx0 := hbl.cell x0
        have hx1 := hbl.cell x1
        have hx2 := hbl.cell x2
        have hx3 := hbl.cell x3
        have hx4 := hbl.cell x4
        have hy0 := hbl.cell y0
        have hy1 := hbl.cell y1
        have hy2 := hbl.cell y2
        have hy3 := hbl.cell y3
        have hy4 := hbl.cell y4
        have hq := neq_node a[k] b[k]
        obtain ⟨C, hC⟩ : ∃ C, Hid ((!sameNd a[k] b[k]) = C) := ⟨_, hide rfl⟩
        rw [hC.out] at hq
        clear ha hb hc1 hc2 x0 x1 x2 x3 x4 y0 y1 y2 y3 y4
        go_wp2_with fail
        go_quiet (fail)
        clear hx0 hx1 hx2 hx3 hx4 hy0 hy1 hy2 hy3 hy4 hq
        cases C
        · go_wp2_with fail
          go_roundw
          case rel => exact ⟨k + 1, by go_num, by omega, hide (same_next hlt hlt' HQ.out (sameNd_true hC.out)), Old.drewN hbl _⟩
          case measure => simp [intOf]; omega
        · go_wp2_with fail
          go_ret
          exact ⟨ret_bool (same_at hlt hlt' (sameNd_false hC.out)).symm, Old.drewN hbl _⟩
      · go_wp2_with fail
        go_ret
        exact ⟨ret_bool (same_end HL.out (fun j hj => HQ.out j (by omega))).symm, hbl⟩
  · have hl' : ((a.length : Int) != (b.length : Int)) = true := by simp; omega
    go_wp2_with fail
    go_ret
    exact ⟨ret_bool (same_len hl).symm, Old.refl _⟩


/-- What the order answers at two keys: never 0. -/
def keyOrd (a b : ByteArray) : Int := bif Op.bytesLess a.toList b.toList then -1 else 1
set_option maxRecDepth 100000 in
set_option maxHeartbeats 400000 in
theorem key_order (i j kb : Nat) (kv : Value) (l : List Nd) (w : World) (hi : i < l.length) (hj : j < l.length) (hkb : w.cell? ⟨kb, 0, none⟩ = some kv) (hkv : NodesIs w kv l) :
    Calls Tryz.prog 32 #[.int .i64 i, .int .i64 j, .pointer (some ⟨kb, 0, none⟩)] w fun e w' => e = .returned (.int .i64 (keyOrd l[i].key l[j].key)) ∧ ∃ q, w' = w.drewN q := by
  obtain ⟨A, ca, rfl, hla, hma, ha⟩ := hkv.nodes
  unfold maxLen at hma
  obtain ⟨b1, o1, rfl, hc1⟩ := ha.resolve_left (by omega)
  obtain ⟨_, x1, _, _, _⟩ := hc1 i hi
  obtain ⟨_, y1, _, _, _⟩ := hc1 j hj
  obtain ⟨K1, hK1⟩ : ∃ K, Hid (l[i].key = K) := ⟨_, hide rfl⟩
  obtain ⟨K2, hK2⟩ : ∃ K, Hid (l[j].key = K) := ⟨_, hide rfl⟩
  rw [hK1.out] at x1 ⊢
  rw [hK2.out] at y1 ⊢
  obtain ⟨n, hn⟩ : ∃ n, l.length = n := ⟨_, rfl⟩
  rw [hn] at hla hkb
  have hi' : i < n := by omega
  have hj' : j < n := by omega
  clear ha hc1 hkv
  go_enter Tryz.func32, Tryz.ntmps32
  go_wp2_with fail
  go_quiet (fail)
  obtain ⟨B, hB⟩ : ∃ B, Hid (Op.bytesLess K1.toList K2.toList = B) := ⟨_, hide rfl⟩
  rw [hB.out]
  cases B
  · go_wp2_with fail
    go_ret
    exact ⟨by rw [keyOrd, hB.out]; rfl, _, rfl⟩
  · go_wp2_with fail
    go_ret
    exact ⟨by rw [keyOrd, hB.out]; rfl, _, rfl⟩
end Go.Proofs.YtmolmphbhdbcaaaGreatDoor

/-! ### The plain law of sorting: a value whose members are ordered by their keys, at every depth. -/
namespace Go.Proofs.YtmolmphbhdbcaaaGreatDoor
open Go.RowKit

def keyLt (a b : ByteArray) : Prop := a.toList < b.toList
theorem bytesLess_lt : ∀ (x y : List UInt8), Op.bytesLess x y = decide (x < y)
  | [], [] => by simp [Op.bytesLess]
  | _ :: _, [] => by simp [Op.bytesLess]
  | [], _ :: _ => by simp [Op.bytesLess]
  | a :: x, b :: y => by
    rw [Op.bytesLess, bytesLess_lt x y]
    simp only [List.cons_lt_cons_iff]
    by_cases h1 : a < b <;> by_cases h2 : a = b <;> by_cases h3 : x < y <;> simp [h1, h2, h3]
theorem less_iff (a b : ByteArray) : Op.bytesLess a.toList b.toList = true ↔ keyLt a b := by
  rw [bytesLess_lt, decide_eq_true_eq]; rfl
theorem keyLt_irrefl (a : ByteArray) : ¬ keyLt a a := List.lt_irrefl _
theorem keyLt_trans {a b c : ByteArray} (h : keyLt a b) (k : keyLt b c) : keyLt a c := List.lt_trans h k
theorem keyLt_asymm {a b : ByteArray} (h : keyLt a b) : ¬ keyLt b a := fun k => keyLt_irrefl _ (keyLt_trans h k)
theorem keyLt_total {a b : ByteArray} (h : ¬ keyLt a b) (hne : a ≠ b) : keyLt b a := by
  rcases Classical.em (keyLt b a) with k | k
  · exact k
  · exact absurd (bytes_ext (List.le_antisymm (List.not_lt.1 k) (List.not_lt.1 h))) hne

/-- one more, at its place -/
def insJ (x : J) : List J → List J
  | [] => [x]
  | y :: l => bif Op.bytesLess x.key.toList y.key.toList then x :: y :: l else y :: insJ x l
def ordJ : List J → List J
  | [] => []
  | x :: l => insJ x (ordJ l)
mutual
def J.sort : J → J
  | .mk h l => .mk h (if h.kind = 7 then ordJ (J.sorts l) else J.sorts l)
def J.sorts : List J → List J
  | [] => []
  | j :: l => J.sort j :: J.sorts l
end
theorem sorts_map : ∀ l, J.sorts l = l.map J.sort
  | [] => by simp [J.sorts]
  | j :: l => by simp [J.sorts, sorts_map l]
theorem sort_hd (j : J) : j.sort.hd = j.hd := by cases j; simp [J.sort, J.hd]
theorem sort_key (j : J) : j.sort.key = j.key := by rw [J.key, J.key, sort_hd]
theorem insJ_perm (x : J) : ∀ l, (insJ x l).Perm (x :: l)
  | [] => .refl _
  | y :: l => by
    rw [insJ]
    cases Op.bytesLess x.key.toList y.key.toList
    · exact ((insJ_perm x l).cons y).trans (List.Perm.swap x y l)
    · exact .refl _
theorem ordJ_perm : ∀ l, (ordJ l).Perm l
  | [] => .refl _
  | x :: l => (insJ_perm x (ordJ l)).trans ((ordJ_perm l).cons x)

/-- each key under all behind it -/
def UpJ (l : List J) : Prop := l.Pairwise fun a b => keyLt a.key b.key
def AptJ (l : List J) : Prop := l.Pairwise fun a b => a.key ≠ b.key
theorem insJ_up {x : J} : ∀ {l : List J}, UpJ l → (∀ y ∈ l, x.key ≠ y.key) → UpJ (insJ x l)
  | [], _, _ => List.pairwise_singleton _ _
  | y :: l, h, hne => by
    obtain ⟨h1, h2⟩ := List.pairwise_cons.1 h
    rw [insJ]
    cases hB : Op.bytesLess x.key.toList y.key.toList
    · have hlt : keyLt y.key x.key := keyLt_total (fun k => by rw [(less_iff _ _).2 k] at hB; exact Bool.noConfusion hB) (hne y (by simp))
      refine List.pairwise_cons.2 ⟨fun z hz => ?_, insJ_up h2 fun z hz => hne z (by simp [hz])⟩
      rcases List.mem_cons.1 ((insJ_perm x l).mem_iff.1 hz) with e | hz
      · rw [e]; exact hlt
      · exact h1 z hz
    · have hlt := (less_iff _ _).1 hB
      refine List.pairwise_cons.2 ⟨fun z hz => ?_, h⟩
      rcases List.mem_cons.1 hz with e | hz
      · rw [e]; exact hlt
      · exact keyLt_trans hlt (h1 z hz)
theorem ordJ_up : ∀ {l : List J}, AptJ l → UpJ (ordJ l)
  | [], _ => List.Pairwise.nil
  | x :: l, h => by
    obtain ⟨h1, h2⟩ := List.pairwise_cons.1 h
    exact insJ_up (ordJ_up h2) fun y hy => h1 y ((ordJ_perm l).mem_iff.1 hy)
theorem up_unique : ∀ {a b : List J}, a.Perm b → UpJ a → UpJ b → a = b
  | [], b, hp, _, _ => (List.nil_perm.1 hp).symm
  | x :: a, [], hp, _, _ => absurd hp.length_eq (by simp)
  | x :: a, y :: b, hp, ha, hb => by
    obtain ⟨a1, a2⟩ := List.pairwise_cons.1 ha
    obtain ⟨b1, b2⟩ := List.pairwise_cons.1 hb
    have hxy : x = y := by
      rcases List.mem_cons.1 (hp.mem_iff.1 (List.mem_cons_self (a := x) (l := a))) with e | hx
      · exact e
      rcases List.mem_cons.1 (hp.mem_iff.2 (List.mem_cons_self (a := y) (l := b))) with e | hy
      · exact e.symm
      exact absurd (a1 y hy) (keyLt_asymm (b1 x hx))
    subst hxy
    rw [up_unique (List.Perm.cons_inv hp) a2 b2]
/-- whatever order by keys the sort found: it is this one -/
theorem ord_found {l l' : List J} (hp : l'.Perm l) (h : AptJ l) (hu : UpJ l') : l'.map J.sort = ordJ (J.sorts l) := by
  have key : ∀ m : List J, UpJ m → UpJ (m.map J.sort) := fun m hm => List.pairwise_map.2 (hm.imp fun {a b} hab => by rw [sort_key, sort_key]; exact hab)
  have hA : AptJ (J.sorts l) := by rw [sorts_map]; exact List.pairwise_map.2 (h.imp fun {a b} hab => by rw [sort_key, sort_key]; exact hab)
  refine up_unique ?_ (key _ hu) (ordJ_up hA)
  refine List.Perm.trans ?_ (ordJ_perm _).symm
  rw [sorts_map]
  exact hp.map _
theorem flats_perm {l l' : List J} (hp : l.Perm l') : (J.flats l).length = (J.flats l').length := by
  induction hp with
  | nil => rfl
  | cons x _ ih => simp [J.flats, ih]
  | swap x y l => simp [J.flats]; omega
  | trans _ _ ih1 ih2 => rw [ih1, ih2]
theorem sort_len : (∀ j : J, j.sort.flat.length = j.flat.length) ∧ ∀ l : List J, (J.flats (J.sorts l)).length = (J.flats l).length := by
  refine J.both ?_ ?_ ?_
  · intro h l ih
    rw [J.sort, flat_mk, flat_mk, List.length_cons, List.length_cons]
    split
    · rw [flats_perm (ordJ_perm _), ih]
    · rw [ih]
  · simp [J.sorts, J.flats]
  · intro j l h1 h2; simp [J.sorts, J.flats, h1, h2]
theorem apt_of_keys (V : ByteArray → Bool) : ∀ (l : List J) (had : List ByteArray), keysOk V had (l.map J.key) → AptJ l ∧ ∀ j ∈ l, j.key ∉ had
  | [], _, _ => ⟨List.Pairwise.nil, fun _ h => absurd h (by simp)⟩
  | j :: l, had, h => by
    obtain ⟨_, h2, h3⟩ := h
    obtain ⟨k1, k2⟩ := apt_of_keys V l (had ++ [j.key]) h3
    refine ⟨List.pairwise_cons.2 ⟨fun x hx e => k2 x hx (by rw [← e]; simp), k1⟩, fun x hx => ?_⟩
    rcases List.mem_cons.1 hx with e | hx
    · rw [e]; exact h2
    · exact fun hh => k2 x hx (by simp [hh])
end Go.Proofs.YtmolmphbhdbcaaaGreatDoor

/-! ### slices.SortFunc over []int, laid off the shelf. -/
namespace Go.Proofs
open Go.Shelf
def Tryz.sortInts_ren : Go.Shelf.Ren := ⟨fun | 6 => 31 | 15 => 51 | 14 => 50 | 28 => 74 | 29 => 75 | 20 => 66 | 21 => 67 | 22 => 68 | 23 => 69 | 24 => 70 | 25 => 71 | 26 => 72 | 27 => 73 | 46 => 93 | 47 => 94 | 48 => 95 | 49 => 96 | 50 => 97 | 57 => 112 | n => n, fun | 22 => 31 | 24 => 3 | 25 => 65 | 3 => 3 | 39 => 99 | 0 => 0 | 53 => 123 | 55 => 125 | 4 => 4 | 46 => 117 | 45 => 116 | 50 => 43 | 5 => 5 | 9 => 9 | 66 => 150 | 70 => 154 | 76 => 170 | 77 => 171 | n => n, fun | n => n⟩
theorem Tryz.sortInts : Go.Proofs.SlLaysF.n6 Tryz.prog Tryz.sortInts_ren := {
  mixed := by kernel_rfl
  f6 := ⟨Tryz.f31.name, by decide, Tryz.func31.trans (congrArg some (by kernel_rfl))⟩
  f14 := ⟨Tryz.f50.name, by decide, Tryz.func50.trans (congrArg some (by kernel_rfl))⟩
  f15 := Tryz.func51.trans (congrArg some (by kernel_rfl))
  f20 := ⟨Tryz.f66.name, by decide, Tryz.func66.trans (congrArg some (by kernel_rfl))⟩
  f21 := ⟨Tryz.f67.name, by decide, Tryz.func67.trans (congrArg some (by kernel_rfl))⟩
  f22 := ⟨Tryz.f68.name, by decide, Tryz.func68.trans (congrArg some (by kernel_rfl))⟩
  f23 := ⟨Tryz.f69.name, by decide, Tryz.func69.trans (congrArg some (by kernel_rfl))⟩
  f24 := ⟨Tryz.f70.name, by decide, Tryz.func70.trans (congrArg some (by kernel_rfl))⟩
  f25 := ⟨Tryz.f71.name, by decide, Tryz.func71.trans (congrArg some (by kernel_rfl))⟩
  f26 := ⟨Tryz.f72.name, by decide, Tryz.func72.trans (congrArg some (by kernel_rfl))⟩
  f27 := ⟨Tryz.f73.name, by decide, Tryz.func73.trans (congrArg some (by kernel_rfl))⟩
  f28 := Tryz.func74.trans (congrArg some (by kernel_rfl))
  f29 := Tryz.func75.trans (congrArg some (by kernel_rfl))
  f46 := ⟨Tryz.f93.name, by decide, Tryz.func93.trans (congrArg some (by kernel_rfl))⟩
  f47 := Tryz.func94.trans (congrArg some (by kernel_rfl))
  f48 := Tryz.func95.trans (congrArg some (by kernel_rfl))
  f49 := ⟨Tryz.f96.name, by decide, Tryz.func96.trans (congrArg some (by kernel_rfl))⟩
  f50 := ⟨Tryz.f97.name, by decide, Tryz.func97.trans (congrArg some (by kernel_rfl))⟩
  f57 := ⟨Tryz.f112.name, by decide, Tryz.func112.trans (congrArg some (by kernel_rfl))⟩
  t0 := Tryz.underlying0
  a0 := Tryz.isAgg0
  z0 := Tryz.sizeOf0
  v0 := Tryz.zeroValue0
  t3 := Tryz.underlying3
  a3 := Tryz.isAgg3
  z3 := Tryz.sizeOf3
  v3 := Tryz.zeroValue3
  t4 := Tryz.underlying4
  a4 := Tryz.isAgg4
  z4 := Tryz.sizeOf4
  v4 := Tryz.zeroValue4
  t5 := Tryz.underlying5
  a5 := Tryz.isAgg5
  z5 := Tryz.sizeOf5
  v5 := Tryz.zeroValue5
  t9 := Tryz.underlying9
  a9 := Tryz.isAgg9
  z9 := Tryz.sizeOf9
  v9 := Tryz.zeroValue9
  t22 := Tryz.underlying31
  a22 := Tryz.isAgg31
  z22 := Tryz.sizeOf31
  v22 := Tryz.zeroValue31
  a24 := Tryz.isAgg3
  z24 := Tryz.sizeOf3
  t25 := Tryz.underlying65
  a25 := Tryz.isAgg65
  z25 := Tryz.sizeOf65
  v25 := Tryz.zeroValue65
  t39 := Tryz.underlying99
  a39 := Tryz.isAgg99
  z39 := Tryz.sizeOf99
  v39 := Tryz.zeroValue99
  t45 := Tryz.underlying116
  a45 := Tryz.isAgg116
  z45 := Tryz.sizeOf116
  v45 := Tryz.zeroValue116
  t46 := Tryz.underlying117
  a46 := Tryz.isAgg117
  z46 := Tryz.sizeOf117
  v46 := Tryz.zeroValue117
  t50 := Tryz.underlying43
  a50 := Tryz.isAgg43
  z50 := Tryz.sizeOf43
  v50 := Tryz.zeroValue43
  t53 := Tryz.underlying123
  a53 := Tryz.isAgg123
  z53 := Tryz.sizeOf123
  v53 := Tryz.zeroValue123
  t55 := Tryz.underlying125
  a55 := Tryz.isAgg125
  z55 := Tryz.sizeOf125
  v55 := Tryz.zeroValue125
  t66 := Tryz.underlying150
  a66 := Tryz.isAgg150
  z66 := Tryz.sizeOf150
  v66 := Tryz.zeroValue150
  t70 := Tryz.underlying154
  a70 := Tryz.isAgg154
  z70 := Tryz.sizeOf154
  v70 := Tryz.zeroValue154
  t76 := Tryz.underlying170
  a76 := Tryz.isAgg170
  z76 := Tryz.sizeOf170
  v76 := Tryz.zeroValue170
  t77 := Tryz.underlying171
  a77 := Tryz.isAgg171
  z77 := Tryz.sizeOf171
  v77 := Tryz.zeroValue171 }
#print axioms Tryz.sortInts
end Go.Proofs

/-! ### slices.SortFunc of positions by the keys of the nodes there. -/
/-! ### slices.SortFunc of positions by the keys of the nodes there. -/
namespace Go.Proofs.YtmolmphbhdbcaaaGreatDoor
open Go.RowKit Go.Shelf Go.Lib Go.Sort

theorem sortWorld_grown {α : Type} [Inhabited α] (enc : α → Value) (w : World) (g off n : Nat) (d : Array α) (os : Array Obj) : w.grownBy (sortWorld enc w g off n d os) (some g) := by
  refine ⟨rfl, rfl, rfl, by simp [sortWorld], fun k hk hne => ?_⟩
  unfold sortWorld
  rw [heap_grow_old _ _ (by simpa using hk)]
  have : g ≠ k := fun e => hne (by rw [e])
  simp [putRow, mapBlock, Sort.ahead, Array.getElem?_modify, this]

abbrev Pos (t : List Nd) : Type := { p : Nat // p < t.length }
def Pos.enc {t : List Nd} (p : Pos t) : Value := .int .i64 (p.1 : Int)
def Pos.cf {t : List Nd} (x y : Pos t) : Int := keyOrd t[x.1].key t[y.1].key
def keyAt (t : List Nd) (k : Nat) : ByteArray := (t[k]?.map Nd.key).getD none_
theorem keyAt_get {t : List Nd} {k : Nat} (h : k < t.length) : keyAt t k = t[k].key := by simp [keyAt, h]
theorem keyOrd_neg (a b : ByteArray) : keyOrd a b < 0 ↔ keyLt a b := by
  rw [← less_iff, keyOrd]
  cases Op.bytesLess a.toList b.toList <;> simp
theorem lt_pos {t : List Nd} (x y : Pos t) : ltOf Pos.cf x y = true ↔ keyLt (keyAt t x.1) (keyAt t y.1) := by
  rw [ltOf, decide_eq_true_eq, Pos.cf, keyOrd_neg, keyAt_get x.2, keyAt_get y.2]
theorem lt_pos_no {t : List Nd} (x y : Pos t) : ltOf Pos.cf x y = false ↔ ¬ keyLt (keyAt t x.1) (keyAt t y.1) := by
  rw [← lt_pos, Bool.not_eq_true]
theorem pos_swo (t : List Nd) : SWO (ltOf (Pos.cf (t := t))) where
  irrefl x := (lt_pos_no _ _).2 (keyLt_irrefl _)
  trans x y z h1 h2 := (lt_pos _ _).2 (keyLt_trans ((lt_pos _ _).1 h1) ((lt_pos _ _).1 h2))
  ntrans x y z h1 h2 := by
    rw [lt_pos_no] at *
    exact List.not_lt.2 (List.le_trans (List.not_lt.1 h2) (List.not_lt.1 h1))

theorem sort_ints (g off cap : Nat) (ks : List Nat) (t : List Nd) (rb : Nat) (kv : Value) (w w0 : World) (hne : ks ≠ []) (hn : ks.length ≤ 4194304)
    (hc : ∀ j, (h : j < ks.length) → w.cell? ⟨g, off + j, none⟩ = some (.int .i64 (ks[j] : Int)) ∧ w.frozen? ⟨g, off + j, none⟩ = false) (hg : g < w.heap.size)
    (ho : Old w0 w) (hg0 : w0.heap.size ≤ g) (hrb : w0.cell? ⟨rb, 0, none⟩ = some kv) (hkv : NodesIs w0 kv t) (hk : ∀ k ∈ ks, k < t.length) :
    Calls Tryz.prog 31 #[.slice (some ⟨g, off, none⟩) ks.length cap, .func (.func 32) #[] #[.pointer (some ⟨rb, 0, none⟩)]] w fun e w' =>
      e = .returned (.tuple #[]) ∧ ∃ ks' : List Nat, ks'.Perm ks ∧ ks'.Pairwise (fun a b => ¬ keyLt (keyAt t b) (keyAt t a)) ∧ (∀ j, (h : j < ks'.length) → w'.cell? ⟨g, off + j, none⟩ = some (.int .i64 (ks'[j] : Int))) ∧ w.grownBy w' (some g) := by
  have hpos : 0 < t.length := by
    cases ks with
    | nil => exact absurd rfl hne
    | cons k l => exact Nat.lt_of_le_of_lt (Nat.zero_le _) (hk k (by simp))
  haveI : Inhabited (Pos t) := ⟨⟨0, hpos⟩⟩
  obtain ⟨d, hd⟩ : ∃ d : Array (Pos t), d.toList.map Subtype.val = ks := ⟨(ks.attach.map fun p => (⟨p.1, hk p.1 p.2⟩ : Pos t)).toArray, by simp⟩
  have hsz : d.size = ks.length := by rw [← hd]; simp
  have hget : ∀ j, (h : j < ks.length) → (d[j]!).1 = ks[j] := by
    intro j h
    rw [getElem!_pos d j (by omega)]
    simp [← hd]
  have hH : Holds (α := Pos t) Pos.enc w g off d := by
    intro j hj
    obtain ⟨c1, c2⟩ := hc j (by omega)
    refine ⟨?_, c2⟩
    rw [c1, Pos.enc, hget j (by omega)]
  have eg : ∀ args w, (callFunc 32 args).run Tryz.prog w = .ok (.enter 32 args) w := enters_of Tryz.func32 (by kernel_rfl) rfl
  have hcmp : CmpReads (α := Pos t) Tryz.prog 32 #[.pointer (some ⟨rb, 0, none⟩)] Pos.enc Pos.cf g off d.size w := by
    intro m os dk _ x y
    have hO : Old w0 (sortWorld Pos.enc w g off m dk os) := Below.grown ho (sortWorld_grown _ _ _ _ _ _ _) ho.size fun k hk => by injection hk with hk; omega
    exact key_order x.1 y.1 rb kv t _ x.2 y.2 (hO.cell hrb) (hkv.old hO)
  have h := Any.slices_SortFunc (α := Pos t) Tryz.sortInts Pos.enc (fun _ => rfl) Pos.cf (pos_swo t) 32 #[.pointer (some ⟨rb, 0, none⟩)] g off cap d w eg hcmp.lays hH hg (by omega)
  change Calls Tryz.prog 31 _ _ _ at h
  rw [hsz] at h
  refine h.mono ?_
  rintro e w' ⟨rfl, d', n, os, ⟨p1, _, p3⟩, hs, rfl⟩
  refine ⟨rfl, d'.toList.map Subtype.val, ?_, ?_, ?_, sortWorld_grown _ _ _ _ _ _ _⟩
  · rw [← hd]
    refine List.Perm.map _ ?_
    have e1 : d'.extract 0 ks.length = d' := by rw [← hsz, ← p1]; simp
    have e2 : d.extract 0 ks.length = d := by rw [← hsz]; simp
    rwa [e1, e2] at p3
  · rw [List.pairwise_map, List.pairwise_iff_getElem]
    intro i j hi hj hij
    simp only [Array.length_toList] at hi hj
    have h1 := hs i j (Nat.zero_le _) hij (by omega)
    rw [getElem!_pos d' j hj, getElem!_pos d' i hi] at h1
    exact (lt_pos_no _ _).1 h1
  · intro j hj
    simp only [List.length_map, Array.length_toList] at hj
    have h1 := (holds_sortWorld Pos.enc w g off n d d' os hg hH p1 j hj).1
    rw [h1, Pos.enc, getElem!_pos d' j hj]
    simp
end Go.Proofs.YtmolmphbhdbcaaaGreatDoor

/-! ### Nodes appended to a row that has room for them; worlds that differ in a box and in a row alone. -/
namespace Go.Proofs.YtmolmphbhdbcaaaGreatDoor
open Go.RowKit

/-- all but the blocks p and q as it was -/
structure Two (p q : Nat) (w w' : World) : Prop where
  os : w'.os = w.os
  tape : w'.tape = w.tape
  output : w'.output = w.output
  size : w.heap.size ≤ w'.heap.size
  block : ∀ k, k < w.heap.size → k ≠ p → k ≠ q → w'.heap[k]? = w.heap[k]?
namespace Two
variable {p q : Nat} {a b c : World}
theorem refl (p q : Nat) (w : World) : Two p q w w := ⟨rfl, rfl, rfl, Nat.le_refl _, fun _ _ _ _ => rfl⟩
theorem trans (h : Two p q a b) (k : Two p q b c) : Two p q a c :=
  ⟨k.os.trans h.os, k.tape.trans h.tape, k.output.trans h.output, Nat.le_trans h.size k.size, fun i h1 h2 h3 => (k.block i (Nat.lt_of_lt_of_le h1 h.size) h2 h3).trans (h.block i h1 h2 h3)⟩
theorem old (h : Two p q a b) (k : Old b c) : Two p q a c :=
  ⟨k.os.trans h.os, k.tape.trans h.tape, k.output.trans h.output, Nat.le_trans h.size k.size, fun i h1 h2 h3 => (k.block i (Nat.lt_of_lt_of_le h1 h.size)).trans (h.block i h1 h2 h3)⟩
theorem grown (h : Two p q a b) (k : b.grownBy c (some q)) : Two p q a c :=
  ⟨k.os.trans h.os, k.tape.trans h.tape, k.output.trans h.output, Nat.le_trans h.size k.size, fun i h1 h2 h3 => (k.block i (Nat.lt_of_lt_of_le h1 h.size) (fun e => h3 (by injection e))).trans (h.block i h1 h2 h3)⟩
theorem grownNew (h : Two p q a b) {g : Nat} (hg : a.heap.size ≤ g) (k : b.grownBy c (some g)) : Two p q a c :=
  ⟨k.os.trans h.os, k.tape.trans h.tape, k.output.trans h.output, Nat.le_trans h.size k.size, fun i h1 h2 h3 => (k.block i (Nat.lt_of_lt_of_le h1 h.size) (fun e => by injection e with e; omega)).trans (h.block i h1 h2 h3)⟩
theorem drewN (h : Two p q a b) (n : Nat) : Two p q a (b.drewN n) := ⟨h.os, h.tape, h.output, h.size, h.block⟩
theorem setBox (h : Two p q a b) (i : Nat) (u : Value) : Two p q a (b.setCell ⟨p, i, none⟩ u) := by
  have hB : RowKit.Below b.heap.size b b := Below.refl _ _
  refine ⟨h.os, h.tape, h.output, by simpa using h.size, fun k h1 h2 h3 => ?_⟩
  rw [← h.block k h1 h2 h3]
  simp [World.setCell, Array.getElem?_modify, Ne.symm h2]
theorem below (h : Two p q a b) {B : Nat} (hB : B ≤ a.heap.size) (hp : B ≤ p) (hq : B ≤ q) : Below B a b :=
  ⟨h.os, h.tape, h.output, h.size, fun k hk => h.block k (by omega) (by omega) (by omega)⟩
theorem cell (h : Two p q a b) {x : Addr} {v : Value} (hc : a.cell? x = some v) (hp : x.block ≠ p) (hq : x.block ≠ q) : b.cell? x = some v :=
  (World.cell?_of_block (w := a) (h.block x.block (World.block_lt_of_cell? a x hc) hp hq)).trans hc
end Two

theorem step_push_room {o : Oper} {a : Act} {K : Act → World → Prop} {Q : Exit → Act → World → Prop} (w : World) (s x : Operand)
    (ho : o.op = .call { callee := .builtin .append, args := #[s, x], argTypes := #[22, 22] })
    (base g C : Nat) (acc : List Nd) (hs : a.eval s = .slice (some ⟨g, 0, none⟩) acc.length C) (hown : NodesOwn base w (.slice (some ⟨g, 0, none⟩) acc.length C) acc)
    (b cap : Nat) (y : Nd) (hx : a.eval x = .slice (some ⟨b, 0, none⟩) 1 cap) (h0 : ∀ j u, y.vals[j]? = some u → w.cell? ((⟨b, 0, none⟩ : Addr).add j) = some u)
    (hroom : acc.length + 1 ≤ C) (hlen : acc.length + 1 ≤ 4194304) (hbase : base ≤ w.heap.size)
    (h : ∀ w', NodesOwn base w' (.slice (some ⟨g, 0, none⟩) (acc.length + 1) C) (acc ++ [y]) → w.grownBy w' (some g) → K (a.put o.dst (.slice (some ⟨g, 0, none⟩) (acc.length + 1) C)) w') : o.wp Tryz.prog a w K Q := by
  obtain ⟨i0, hi, hz0, hz1, hz2⟩ := info_parts nodeInfo
  have hvc : ∀ u ∈ y.vals, u.oneCell' = true := by rw [← ndVals_one]; exact ndVals_cell _
  obtain ⟨v', w', hr, h2, h3, _⟩ := run_append_own (P := Tryz.prog) w base 22 o.type 57 i0 _ 5 56 Tryz.underlying22 hi hz0 hz1 hz2 rfl (by omega) _ acc.length (ndVals acc) hown ⟨b, 0, none⟩ 1 cap y.vals rfl h0 hvc (by unfold maxLen; omega) (by omega) hbase
  obtain ⟨_, ⟨hv, _⟩ | ⟨g', c', cur, hv, _, hgg, hn, hm, hsz, htk⟩⟩ := hown
  · cases hv
  · injection hv with hv1 hv2 hv3
    injection hv1 with hv1
    injection hv1 with hv1
    subst hv1 hv3
    have hr2 := run_append_room (P := Tryz.prog) w 22 o.type 57 i0 Tryz.underlying22 hi g acc.length C cur hgg ⟨b, 0, none⟩ 1 cap y.vals (by rw [hz1]; rfl) h0 hvc hroom (by rw [hz1, hsz]; show acc.length * 5 + 5 ≤ C * 5; omega)
    rw [hr] at hr2
    injection hr2 with e1 e2
    subst e1
    unfold Oper.wp execOp
    simp only [ho, resolve, invoke, builtin, Sem.run_bind, Sem.run_pure, Result.andThen_ok, List.map_toArray, List.map_cons, List.map_nil, hs, hx, hr]
    refine h w' ?_ h3
    unfold NodesOwn
    rw [ndVals_append, ndVals_one, List.length_append]
    exact h2
end Go.Proofs.YtmolmphbhdbcaaaGreatDoor

/-! ### Where the parts of a value stand: a choice of the part by its place. -/
namespace Go.Proofs.YtmolmphbhdbcaaaGreatDoor
open Go.RowKit

theorem starts_ge : ∀ (l : List J) (a : Nat), ∀ p ∈ starts a l, a ≤ p
  | [], _, _, h => absurd h (by simp [starts])
  | j :: l, a, p, h => by
    rw [starts] at h
    rcases List.mem_cons.1 h with e | h
    · omega
    · have := starts_ge l _ p h; omega
/-- each place has its part -/
theorem starts_pick (t : List Nd) : ∀ (l : List J) (a : Nat) (r : List Nd), t.drop a = J.flats l ++ r →
    ∃ f : Nat → J, (starts a l).map f = l ∧ ∀ p ∈ starts a l, p < t.length ∧ f p ∈ l ∧ keyAt t p = (f p).key ∧ ∃ r', t.drop p = (f p).flat ++ r'
  | [], _, _, _ => ⟨fun _ => .mk ⟨0, none_, 0, none_⟩ [], by simp [starts], fun _ h => absurd h (by simp [starts])⟩
  | j :: l, a, r, hd => by
    rw [flats_cons, List.append_assoc] at hd
    have hd2 : t.drop (a + j.flat.length) = J.flats l ++ r := by
      rw [← List.drop_drop, hd, List.drop_left' rfl]
    obtain ⟨f, hf, hm⟩ := starts_pick t l _ r hd2
    have hpos := flat_pos j
    have hne : ∀ p ∈ starts (a + j.flat.length) l, p ≠ a := fun p hp => by have := starts_ge l _ p hp; omega
    refine ⟨fun p => if p = a then j else f p, ?_, ?_⟩
    · rw [starts, List.map_cons, if_pos rfl]
      congr 1
      refine Eq.trans (List.map_congr_left fun p hp => ?_) hf
      rw [if_neg (hne p hp)]
    · intro p hp
      rw [starts] at hp
      by_cases e : p = a
      · subst e
        obtain ⟨h1, h2⟩ := head_flat hd
        simp only [if_true]
        exact ⟨h1, by simp, by rw [keyAt_get h1, h2]; rfl, _, hd⟩
      · have hp' := (List.mem_cons.1 hp).resolve_left e
        obtain ⟨h1, h2, h3, h4⟩ := hm p hp'
        simp only [if_neg e]
        exact ⟨h1, by simp [h2], h3, h4⟩
/-- whatever order of the places the sort found, the parts there, put in order, are those of the ordered value -/
theorem found_sorted (V : ByteArray → Bool) {t : List Nd} {l : List J} {a : Nat} {f : Nat → J} {ks : List Nat} (hf : (starts a l).map f = l) (hm : ∀ p ∈ starts a l, keyAt t p = (f p).key) (hk : keysOk V [] (l.map J.key))
    (hp : ks.Perm (starts a l)) (hs : ks.Pairwise fun a b => ¬ keyLt (keyAt t b) (keyAt t a)) : (ks.map f).map J.sort = ordJ (J.sorts l) := by
  have hA := (apt_of_keys V l [] hk).1
  have hpl : (ks.map f).Perm l := by
    have := hp.map f
    rwa [hf] at this
  refine ord_found hpl hA ?_
  have hA2 : AptJ (ks.map f) := (hpl.symm.pairwise_iff (fun {a b} h => h.symm)).1 hA
  unfold UpJ AptJ at *
  rw [List.pairwise_map] at hA2 ⊢
  refine (hs.and hA2).imp_of_mem fun {x y} hx hy h => ?_
  have e1 := hm x (hp.mem_iff.1 hx)
  have e2 := hm y (hp.mem_iff.1 hy)
  rw [← e1, ← e2]
  refine keyLt_total h.1 fun e => h.2 ?_
  rw [← e1, ← e2, e]
end Go.Proofs.YtmolmphbhdbcaaaGreatDoor

/-! ### slices.SortFunc of a list of positions just made, empty or not. -/
namespace Go.Proofs.YtmolmphbhdbcaaaGreatDoor
open Go.RowKit Go.Shelf

theorem sort_any (v : Value) (ks : List Nat) (t : List Nd) (rb base : Nat) (kv : Value) (w w0 : World) (hn : ks.length ≤ 4194304) (hv : IntsT base w v ks)
    (ho : Old w0 w) (hg0 : w0.heap.size ≤ base) (hrb : w0.cell? ⟨rb, 0, none⟩ = some kv) (hkv : NodesIs w0 kv t) (hk : ∀ k ∈ ks, k < t.length) :
    Calls Tryz.prog 31 #[v, .func (.func 32) #[] #[.pointer (some ⟨rb, 0, none⟩)]] w fun e w' =>
      e = .returned (.tuple #[]) ∧ ∃ ks' : List Nat, ks'.Perm ks ∧ ks'.Pairwise (fun a b => ¬ keyLt (keyAt t b) (keyAt t a)) ∧ (∃ A cap, v = .slice A ks'.length cap ∧ ks'.length ≤ cap ∧ cap ≤ maxLen ∧
        (ks' = [] ∨ ∃ b off, A = some ⟨b, off, none⟩ ∧ base ≤ b ∧ b < w.heap.size ∧ ∀ j, (h : j < ks'.length) → w'.cell? ⟨b, off + j, none⟩ = some (.int .i64 (ks'[j] : Int)))) ∧
        ∃ B, base ≤ B ∧ w.grownBy w' (some B) := by
  obtain ⟨A, cap, rfl, h1, h2, h3⟩ := hv
  by_cases hne : ks = []
  · subst hne
    have h := fun W => AnyF.slices_SortFunc_none (P := Tryz.prog) (ρ := Tryz.sortInts_ren) { Tryz.sortInts with } A cap (.func (.func 32) #[] #[.pointer (some ⟨rb, 0, none⟩)]) W
    change ∀ W, Calls Tryz.prog 31 _ _ _ at h
    refine (h w).mono ?_
    rintro e w' ⟨rfl, rfl⟩
    exact ⟨rfl, [], .refl _, List.Pairwise.nil, ⟨A, cap, rfl, h1, h2, .inl rfl⟩, base, Nat.le_refl _, World.grownBy.refl _ _⟩
  · obtain ⟨b, off, cs, rfl, hb, hh, hc⟩ := h3 (by cases ks with | nil => exact absurd rfl hne | cons _ _ => simp [intVals])
    have hbw := block_lt hh
    refine (sort_ints b off cap ks t rb kv w w0 hne hn ?_ hbw ho (Nat.le_trans hg0 hb) hrb hkv hk).mono ?_
    · intro j hj
      refine ⟨(cell_of_heap hh).trans (hc j _ (by simp [intVals, hj])), free_of_heap hh⟩
    · rintro e w' ⟨rfl, ks', p1, p2, p3, p4⟩
      have hl := p1.length_eq
      exact ⟨rfl, ks', p1, p2, ⟨_, cap, by rw [hl], by omega, h2, .inr ⟨b, off, rfl, hb, hbw, p3⟩⟩, b, hb, p4⟩
end Go.Proofs.YtmolmphbhdbcaaaGreatDoor

/-! ### Small laws for the walk of tape.Sorted's closure. -/
namespace Go.Proofs.YtmolmphbhdbcaaaGreatDoor
open Go.RowKit

theorem kid_ok {V : ByteArray → Bool} {j : J} (h : j.Ok V) : ∀ x ∈ j.kids, x.Ok V := by
  cases j with
  | mk hd l =>
    rw [J.Ok] at h
    intro x hx
    rcases h with ⟨_, e⟩ | ⟨_, _, h, _⟩ | ⟨_, _, h, _⟩
    · rw [J.kids, e] at hx; simp at hx
    · exact oks_mem h x hx
    · exact oks_mem h x hx
theorem ok_keys {V : ByteArray → Bool} {j : J} (h : j.Ok V) (h7 : j.hd.kind = 7) : keysOk V [] (j.kids.map J.key) := by
  cases j with
  | mk hd l =>
    rw [J.Ok] at h
    have h7' : hd.kind = 7 := h7
    rcases h with ⟨h, _⟩ | ⟨h, _⟩ | ⟨_, _, _, h⟩
    · rcases h with ⟨h | h | h, _⟩ | ⟨h, _⟩ | ⟨h, _⟩ <;> omega
    · omega
    · exact h
theorem flats_mem_le {l : List J} {x : J} (h : x ∈ l) : x.flat.length ≤ (J.flats l).length := by
  induction l with
  | nil => simp at h
  | cons j l ih =>
    rw [flats_cons, List.length_append]
    rcases List.mem_cons.1 h with e | h
    · subst e; omega
    · have := ih h; omega
theorem flat_kids (j : J) : j.flat.length = (J.flats j.kids).length + 1 := by
  cases j; rw [flat_mk, List.length_cons]; rfl
/-- the room that the parts placed so far have taken, and the next -/
theorem room_next {l l' : List J} (hp : l'.Perm l) {a : Nat} (ha : a < l'.length) : (J.flats ((l'.take a).map J.sort)).length + l'[a].flat.length ≤ (J.flats l).length := by
  have h1 : (J.flats ((l'.take a).map J.sort)).length = (J.flats (l'.take a)).length := by rw [← sorts_map, sort_len.2]
  rw [h1, ← List.length_append, ← flats_take_snoc ha, ← flats_perm hp]
  exact flats_take_le l' (a + 1)
theorem sorted_next {l : List J} {a : Nat} (ha : a < l.length) (acc : List Nd) : acc ++ J.flats ((l.take (a + 1)).map J.sort) = acc ++ J.flats ((l.take a).map J.sort) ++ l[a].sort.flat := by
  rw [List.take_succ_eq_append_getElem ha, List.map_append, flats_append, List.map_cons, List.map_nil, flats_one, List.append_assoc]
theorem sort_flat_obj {j : J} (h7 : j.hd.kind = 7) {n : Nat} (hn : j.flat.length = n) : j.sort.flat = [⟨j.hd.kind, j.hd.key, j.hd.n, j.hd.s, n⟩] ++ J.flats (ordJ (J.sorts j.kids)) := by
  cases j with
  | mk h l =>
    have e : h.kind = 7 := h7
    have hk := flat_kids (.mk h l)
    rw [J.sort, if_pos e, flat_mk, flats_perm (ordJ_perm _), sort_len.2]
    have e2 : ((J.flats l).length : Int) + 1 = (n : Int) := by rw [← hn, hk]; rfl
    rw [e2]; rfl
theorem sort_flat_not {j : J} (h7 : ¬ j.hd.kind = 7) {n : Nat} (hn : j.flat.length = n) : j.sort.flat = [⟨j.hd.kind, j.hd.key, j.hd.n, j.hd.s, n⟩] ++ J.flats (j.kids.map J.sort) := by
  cases j with
  | mk h l =>
    have e : ¬ h.kind = 7 := h7
    have hk := flat_kids (.mk h l)
    rw [J.sort, if_neg e, flat_mk, sort_len.2, sorts_map]
    have e2 : ((J.flats l).length : Int) + 1 = (n : Int) := by rw [← hn, hk]; rfl
    rw [e2]; rfl
end Go.Proofs.YtmolmphbhdbcaaaGreatDoor
