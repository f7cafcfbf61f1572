/- TapeKnown's plain laws: copies of the example with one field changed; nulls; lists in lists. -/
import Derived.Test.YtkefhhnbkhijgaaDoorTellsT
import Derived.Test.YtkefhhnbkhijgaaDoorAgain
import Derived.Test.YtkefhhnbkhijgaaDoorMakesU
import Derived.Test.YtkefhhnbkhijgaaDoorFive
namespace Go.Proofs.YtkefhhnbkhijgaaDoor
open Go.RowKit

/-! nulls -/
def nuJ : J := leafJ 1 0 none_
def nulls (n : Nat) : List (List Nd) := List.replicate n nuT
theorem nulls_len (n : Nat) : (nulls n).length = n := by simp [nulls]
theorem nulls_snoc (n : Nat) : nulls n ++ [nuT] = nulls (n + 1) := by simp [nulls, List.replicate_succ']
theorem nulls_tx (n : Nat) : ∀ p ∈ nulls n, TextsOk p := by
  intro p hp
  obtain rfl := List.eq_of_mem_replicate hp
  exact sizes_ok _ (by decide)
theorem nulls_may (n : Nat) : AllMay (nulls n) (List.replicate n nuJ) := by
  refine ⟨by simp [nulls], fun i h h' => ?_⟩
  simp only [nulls, List.getElem_replicate]
  exact nuMay
theorem nuJ_deep : nuJ.deep = 1 := by simp [nuJ, leafJ, J.deep, J.deeps]
theorem nuTx : TextsOk nuT := sizes_ok _ (by decide)
theorem one_parts {w : World} {v : Value} {t : List Nd} (h : NodesIs w v t) : ∀ p ∈ [(v, t)], NodesIs w p.1 p.2 := by
  intro p hp
  simp at hp
  subst hp
  exact h
/-- Deep of a value that may be -/
theorem deep_may {v : Value} {t : List Nd} {j : J} {w : World} (ht : NodesIs w v t) (h : May t j) (hx : TextsOk t) (hT : Tabs w) {d : Int} (hd : (j.deep : Int) = d) :
    Calls Tryd.prog 35 #[v] w fun e w' => e = .returned (.int .i64 d) ∧ Old w w' := by
  subst hd
  have := deep_run v t w ht hx hT
  rwa [deepT_may h] at this
theorem nuJ_flat : nuJ.flat.length = 1 := by simp [nuJ, leafJ, J.flat, J.flats]
theorem nulls_flats (n : Nat) : (J.flats (List.replicate n nuJ)).length = n := by
  induction n with
  | zero => simp [J.flats]
  | succ n ih => rw [List.replicate_succ, J.flats, List.length_append, ih, nuJ_flat]; omega
theorem nulls_deeps (n : Nat) : J.deeps (List.replicate n nuJ) ≤ 1 := by
  refine deeps_le fun j hj => ?_
  obtain rfl := List.eq_of_mem_replicate hj
  simp [nuJ, leafJ, J.deep, J.deeps]
def manyT : List Nd := J.flat (.mk ⟨6, none_, 0, none_⟩ (List.replicate 3999 nuJ))
theorem manyT_len : manyT.length = 4000 := by rw [manyT, flat_mk, List.length_cons, nulls_flats]
theorem many_ok : ListT (nulls 3999) manyT 0 := by
  refine .inr ⟨_, nulls_may _, .inr (.inr ⟨?_, ?_, rfl, rfl⟩)⟩
  · rw [nulls_flats]; omega
  · have := nulls_deeps 3999; omega
theorem many_out : ListT (nulls 4000) [] 5 := by
  refine .inr ⟨_, nulls_may _, .inl ⟨?_, rfl, rfl⟩⟩
  rw [nulls_flats]; omega
/-! many nodes -/
def longT : List Nd := List.replicate 4001 zeroNd
theorem longT_len : longT.length = 4001 := List.length_replicate
theorem long_chk : chkT longT = 5 := by
  unfold chkT
  rw [if_pos (by rw [longT_len]; omega)]
theorem long_tx : TextsOk longT := by
  intro x hx
  obtain rfl := List.eq_of_mem_replicate hx
  unfold maxLen
  decide
theorem allMay_oks_ {pl : List (List Nd)} {js : List J} (h : AllMay pl js) : J.Oks vU js := oks_of fun j hj => by
  obtain ⟨i, hi, rfl⟩ := List.getElem_of_mem hj
  exact (h.2 i (by have := h.1; omega) hi).1.1
theorem texts_in_ {t : List Nd} {j : J} (h : May t j) (hx : TextsOk t) : TextsOk (J.flat (.mk ⟨6, none_, 0, none_⟩ [j])) := by
  intro x hm
  rw [flat_mk, List.mem_cons] at hm
  rcases hm with rfl | hm
  · exact ⟨Nat.zero_le _, Nat.zero_le _⟩
  · rw [flats_one, ← h.1.2.2] at hm
    exact hx x hm
/-! lists in lists -/
def listIn (j : J) : J := .mk ⟨6, none_, 0, none_⟩ [j]
theorem all_one {t : List Nd} {j : J} (h : May t j) : AllMay [t] [j] := by
  refine ⟨rfl, fun i h1 h2 => ?_⟩
  have : i = 0 := by simpa using h1
  subst this
  exact h
theorem list_in_ {t : List Nd} {j : J} (h : May t j) (hd : j.deep < 64) (hl : t.length < 4000) : ListT [t] (listIn j).flat 0 := by
  have e := h.1.2.2
  refine .inr ⟨_, all_one h, .inr (.inr ⟨?_, by simp only [J.deeps]; omega, rfl, rfl⟩)⟩
  rw [flats_one, ← e]; omega
theorem two_out {t : List Nd} {j : J} (h : May t j) (hd : j.deep = 64) (hl : t.length < 3999) : ListT [nuT, t] [] 72 := by
  have e := h.1.2.2
  refine .inr ⟨_, two_may nuMay h, .inr (.inl ⟨?_, by simp only [J.deeps]; omega, rfl, rfl⟩)⟩
  have e2 : (leafJ 1 0 none_).flat.length = 1 := nuJ_flat
  simp only [J.flats, List.length_append, List.append_nil, ← e, e2]
  omega
theorem listIn_may {t : List Nd} {j : J} (h : May t j) (hd : j.deep < 64) (hl : t.length < 4000) : May (listIn j).flat (listIn j) := by
  have e := h.1.2.2
  have h2 : J.Oks vU [j] := allMay_oks_ (all_one h)
  have h3 := allMay_keys (all_one h)
  refine ⟨⟨?_, rfl, rfl⟩, ?_, ?_⟩
  · unfold listIn
    simp only [J.Ok]
    exact .inr (.inl ⟨by trivial, ⟨rfl, rfl⟩, h2, h3⟩)
  · rw [listIn, flat_mk, List.length_cons, flats_one, ← e]; omega
  · simp only [listIn, J.deep, J.deeps]; omega
theorem listIn_len {t : List Nd} {j : J} (h : May t j) : (listIn j).flat.length = t.length + 1 := by
  rw [listIn, flat_mk, List.length_cons, flats_one, ← h.1.2.2]
theorem listIn_deep (j : J) : (listIn j).deep = j.deep + 1 := by simp only [listIn, J.deep, J.deeps]; omega
theorem listIn_texts {t : List Nd} {j : J} (h : May t j) (hx : TextsOk t) : TextsOk (listIn j).flat :=
  texts_in_ h hx
/-- lists, one in another -/
def nest : Nat → J
  | 0 => .mk ⟨6, none_, 0, none_⟩ []
  | k + 1 => listIn (nest k)
theorem nest_len : ∀ k, (nest k).flat.length = k + 1
  | 0 => by simp [nest, J.flat, J.flats]
  | k + 1 => by rw [nest, listIn, flat_mk, List.length_cons, flats_one, nest_len k]
theorem nest_deep : ∀ k, (nest k).deep = k + 1
  | 0 => by simp [nest, J.deep, J.deeps]
  | k + 1 => by rw [nest, listIn_deep, nest_deep k]
theorem nest_key : ∀ k, (nest k).key = none_
  | 0 => rfl
  | _ + 1 => rfl
theorem nest_ok : ∀ k, J.Ok vU (nest k)
  | 0 => by
    simp only [nest, J.Ok]
    exact .inr (.inl ⟨by trivial, ⟨rfl, rfl⟩, by simp [J.Oks], by simp⟩)
  | k + 1 => by
    simp only [nest, listIn, J.Ok]
    exact .inr (.inl ⟨by trivial, ⟨rfl, rfl⟩, by simp only [J.Oks]; exact ⟨nest_ok k, trivial⟩, by simpa using nest_key k⟩)
/-- a list's node of a size -/
def lnd (n : Int) : Nd := ⟨6, none_, 0, none_, n⟩
theorem nest_flat : ∀ k : Nat, (nest k).flat = (List.range (k + 1)).map fun (m : Nat) => lnd ((k : Int) + 1 - m)
  | 0 => by simp [nest, J.flat, J.flats, lnd]
  | k + 1 => by
    rw [nest, listIn, flat_mk, flats_one, nest_len, nest_flat k, List.range_succ_eq_map (n := k + 1), List.map_cons, List.map_map]
    refine List.cons_eq_cons.2 ⟨by simp [lnd], List.map_congr_left fun m _ => ?_⟩
    simp only [Function.comp, lnd]
    congr 1
    omega
/-- the chapter's nodes, when i of them were put behind the first -/
def lowT (i : Nat) : List Nd := (List.range (i + 1)).map fun (m : Nat) => lnd (65 - (m : Int))
theorem lowT_zero : lowT 0 = [lnd 65] := by simp [lowT]
theorem lowT_snoc (i : Nat) : lowT (i + 1) = lowT i ++ [lnd (64 - (i : Int))] := by
  unfold lowT
  rw [List.range_succ (n := i + 1), List.map_append, List.map_cons, List.map_nil]
  congr 3
  omega
theorem lowT_len (i : Nat) : (lowT i).length = i + 1 := by simp [lowT]
theorem lowT_tx (i : Nat) : TextsOk (lowT i) := by
  intro x hx
  obtain ⟨m, _, rfl⟩ := List.mem_map.1 hx
  unfold maxLen lnd
  exact ⟨Nat.zero_le _, Nat.zero_le _⟩
theorem low_chk : chkT (lowT 64) = 72 := by
  have e : lowT 64 = (nest 64).flat := by
    rw [nest_flat, lowT]
    rfl
  unfold chkT
  rw [if_neg (by rw [lowT_len]; omega), look_yes (j := nest 64) ⟨nest_ok 64, nest_key 64, e⟩]
  simp only
  rw [if_pos (by rw [nest_deep]; omega)]
end Go.Proofs.YtkefhhnbkhijgaaDoor
