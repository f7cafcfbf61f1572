/- Groups: what entries come to, and the rows of groups: plain laws. No program is named here. -/
import Derived.Test.YtmfbblcipakaiaaGreatDoorSum
import Derived.Maps.RangeWalk
import Derived.Maps.Views
import Derived.StringKeys
/-! ### Groups: what entries come to, and the rows of groups: plain laws. No program is named here. -/
namespace Go.Proofs.YtmfbblcipakaiaaGreatDoor

/-- an entry: a key, numbers or nothing, and how often it is there -/
structure Ent where
  key : List Cell
  vals : List Cell
  w : Int

/-- what an entry adds to the count (0) and to the sums -/
def part (e : Ent) : Nat → Int
  | 0 => e.w
  | i + 1 => match e.vals[i]? with
    | some c => if c.null then 0 else e.w * c.n
    | none => 0
def tot : List Ent → List Cell → Nat → Int
  | [], _, _ => 0
  | e :: l, k, i => (if e.key = k then part e i else 0) + tot l k i
theorem tot_append (l m : List Ent) (k : List Cell) (i : Nat) : tot (l ++ m) k i = tot l k i + tot m k i := by
  induction l with
  | nil => simp [tot]
  | cons e l ih => simp only [List.cons_append, tot, ih]; omega
theorem tot_snoc (l : List Ent) (e : Ent) (k : List Cell) (i : Nat) : tot (l ++ [e]) k i = tot l k i + if e.key = k then part e i else 0 := by
  rw [tot_append]; simp [tot]
theorem tot_none {l : List Ent} {k : List Cell} (h : ∀ e ∈ l, e.key ≠ k) (i : Nat) : tot l k i = 0 := by
  induction l with
  | nil => rfl
  | cons e l ih => rw [tot, if_neg (h e (by simp)), ih (fun y hy => h y (by simp [hy]))]; rfl
theorem tot_turn (l : List Ent) (n : Nat) (k : List Cell) (i : Nat) : tot (l.drop n ++ l.take n) k i = tot l k i := by
  rw [tot_append, Int.add_comm, ← tot_append, List.take_append_drop]
def turned (e : Ent) : Ent := ⟨e.key, e.vals, -e.w⟩
theorem part_turned (e : Ent) (i : Nat) : part (turned e) i = - part e i := by
  cases i with
  | zero => rfl
  | succ i =>
    simp only [part, turned]
    split
    · split
      · rfl
      · rw [Int.neg_mul]
    · rfl
theorem tot_turned (l : List Ent) (k : List Cell) (i : Nat) : tot (l.map turned) k i = - tot l k i := by
  induction l with
  | nil => rfl
  | cons e l ih =>
    simp only [List.map_cons, tot, ih, part_turned]
    have : (turned e).key = e.key := rfl
    rw [this]
    split <;> omega

/-! ### which entries may be -/
def valB (c : Cell) : Bool := c.s.data.toList.isEmpty && (!c.null || c.n == 0)
def entMay (K S : Nat) (e : Ent) : Bool := decide (e.key.length = K) && decide (e.vals.length = S) && e.vals.all valB
def allMay (K S : Nat) (l : List Ent) : Bool := l.all (entMay K S)
theorem entMay_iff {K S : Nat} {e : Ent} : entMay K S e = true ↔ e.key.length = K ∧ e.vals.length = S ∧ ∀ c ∈ e.vals, valB c = true := by
  simp [entMay, and_assoc]
theorem allMay_append {K S : Nat} {l m : List Ent} : allMay K S (l ++ m) = (allMay K S l && allMay K S m) := by simp [allMay]

/-! ### the state: of each key, numbers -/
abbrev Gf := List Cell → Nat → Int
def gAdd (f : Gf) (l : List Ent) : Gf := fun k i => f k i + tot l k i
def gZero : Gf := fun _ _ => 0
theorem gAdd_append (f : Gf) (l m : List Ent) : gAdd (gAdd f l) m = gAdd f (l ++ m) := by
  funext k i; simp only [gAdd, tot_append]; omega
theorem gAdd_nil (f : Gf) : gAdd f [] = f := by funext k i; simp [gAdd, tot]
def numsOf (S : Nat) (f : Gf) (k : List Cell) : List Int := (List.range (S + 1)).map (f k)
theorem numsOf_length (S : Nat) (f : Gf) (k : List Cell) : (numsOf S f k).length = S + 1 := by simp [numsOf]
theorem numsOf_get (S : Nat) (f : Gf) (k : List Cell) (i : Nat) (h : i ≤ S) : (numsOf S f k)[i]? = some (f k i) := by
  have : i < S + 1 := by omega
  simp [numsOf, this]
def restB (n : Int) : Bool := n != 0
/-- is something left of a group? -/
def leftB (S : Nat) (f : Gf) (k : List Cell) : Bool := (numsOf S f k).any restB
theorem leftB_false {S : Nat} {f : Gf} {k : List Cell} : leftB S f k = false ↔ ∀ i, i ≤ S → f k i = 0 := by
  unfold leftB
  rw [List.any_eq_false]
  constructor
  · intro h i hi
    have := h (f k i) (List.mem_of_getElem? (numsOf_get S f k i hi))
    simpa [restB] using this
  · intro h n hn
    obtain ⟨i, hi, rfl⟩ := List.mem_map.1 hn
    have := List.mem_range.1 hi
    simp [restB, h i (by omega)]
def okB (S : Nat) (f : Gf) (l : List Ent) : Bool := l.all fun e => (numsOf S (gAdd f l) e.key).all fun n => decide (fit n)
theorem okB_iff {S : Nat} {f : Gf} {l : List Ent} : okB S f l = true ↔ ∀ e ∈ l, ∀ i, i ≤ S → fit (gAdd f l e.key i) := by
  unfold okB
  rw [List.all_eq_true]
  constructor
  · intro h e he i hi
    exact of_decide_eq_true (List.all_eq_true.1 (h e he) _ (List.mem_of_getElem? (numsOf_get S (gAdd f l) e.key i hi)))
  · intro h e he
    rw [List.all_eq_true]
    intro n hn
    obtain ⟨i, hi, rfl⟩ := List.mem_map.1 hn
    have := List.mem_range.1 hi
    exact decide_eq_true (h e he i (by omega))
/-- what Apply answers as its error -/
def appErr (K S : Nat) (f : Gf) (l : List Ent) : Int := if allMay K S l then (if okB S f l then 0 else 50) else 2
/-- the state behind Apply -/
def appF (K S : Nat) (f : Gf) (l : List Ent) : Gf := if appErr K S f l = 0 then gAdd f l else f
theorem appErr_zero {K S : Nat} {f : Gf} {l : List Ent} : appErr K S f l = 0 ↔ allMay K S l = true ∧ okB S f l = true := by
  unfold appErr
  cases allMay K S l <;> cases okB S f l <;> simp
theorem appErr_may {K S : Nat} {f : Gf} {l : List Ent} (h : allMay K S l = false) : appErr K S f l = 2 ∧ appF K S f l = f := by
  have : appErr K S f l = 2 := by simp [appErr, h]
  exact ⟨this, by rw [appF, if_neg (by omega)]⟩
theorem appErr_over {K S : Nat} {f : Gf} {l : List Ent} (h : allMay K S l = true) (h2 : okB S f l = false) : appErr K S f l = 50 ∧ appF K S f l = f := by
  have : appErr K S f l = 50 := by simp [appErr, h, h2]
  exact ⟨this, by rw [appF, if_neg (by omega)]⟩
theorem appErr_ok {K S : Nat} {f : Gf} {l : List Ent} (h : allMay K S l = true) (h2 : okB S f l = true) : appErr K S f l = 0 ∧ appF K S f l = gAdd f l := by
  have : appErr K S f l = 0 := by simp [appErr, h, h2]
  exact ⟨this, by rw [appF, if_pos this]⟩
theorem appErr_or (K S : Nat) (f : Gf) (l : List Ent) : appErr K S f l = 0 ∨ appErr K S f l = 2 ∨ appErr K S f l = 50 := by
  unfold appErr
  cases allMay K S l <;> cases okB S f l <;> simp
def GFit (S : Nat) (f : Gf) : Prop := ∀ k i, i ≤ S → fit (f k i)
theorem GFit.zero (S : Nat) : GFit S gZero := fun _ _ _ => by simp [gZero, fit]
theorem GFit.app {K S : Nat} {f : Gf} {l : List Ent} (h : GFit S f) : GFit S (appF K S f l) := by
  unfold appF
  split
  · rename_i he
    obtain ⟨_, h2⟩ := appErr_zero.1 he
    intro k i hi
    by_cases hk : ∃ e ∈ l, e.key = k
    · obtain ⟨e, he, rfl⟩ := hk
      exact okB_iff.1 h2 e he i hi
    · have : tot l k i = 0 := tot_none (fun e he hh => hk ⟨e, he, hh⟩) i
      unfold gAdd
      rw [this, Int.add_zero]
      exact h k i hi
  · exact h
/-- keys of another length have nothing -/
def GLen (K : Nat) (f : Gf) : Prop := ∀ k i, k.length ≠ K → f k i = 0
theorem GLen.zero (K : Nat) : GLen K gZero := fun _ _ _ => rfl
theorem GLen.app {K S : Nat} {f : Gf} {l : List Ent} (h : GLen K f) : GLen K (appF K S f l) := by
  unfold appF
  split
  · rename_i he
    obtain ⟨h1, _⟩ := appErr_zero.1 he
    intro k i hk
    unfold gAdd
    rw [h k i hk, tot_none (fun e he hh => hk (by
      have := (entMay_iff.1 (List.all_eq_true.1 h1 e he)).1
      rw [← hh, this])) i]
    rfl
  · exact h

/-! ### rows of groups -/
def numCell (n : Int) : Cell := ⟨false, n, ⟨#[]⟩⟩
def rowOf (S : Nat) (f : Gf) (k : List Cell) : List Cell := k ++ (numsOf S f k).map numCell
theorem rowOf_length (S : Nat) (f : Gf) (k : List Cell) : (rowOf S f k).length = k.length + (S + 1) := by simp [rowOf, numsOf]
theorem rowOf_take {S K : Nat} {f : Gf} {k : List Cell} (h : k.length = K) : (rowOf S f k).take K = k := by subst h; simp [rowOf]
/-- the weight of a row among the rows of the groups that are seen -/
def rowW (K S : Nat) (f : Gf) (r : List Cell) : Int := if f (r.take K) 0 ≠ 0 ∧ r = rowOf S f (r.take K) then 1 else 0
theorem rowW_01 (K S : Nat) (f : Gf) (r : List Cell) : rowW K S f r = 0 ∨ rowW K S f r = 1 := by unfold rowW; split <;> simp
theorem rowW_zero (K S : Nat) (r : List Cell) : rowW K S gZero r = 0 := by simp [rowW, gZero]
def seenIt (S : Nat) (f : Gf) (k : List Cell) (w : Int) : List Item := if f k 0 = 0 then [] else [⟨rowOf S f k, w⟩]
theorem seenIt_none {S : Nat} {f : Gf} {k : List Cell} (h : f k 0 = 0) (w : Int) : seenIt S f k w = [] := if_pos h
theorem seenIt_one {S : Nat} {f : Gf} {k : List Cell} (h : f k 0 ≠ 0) (w : Int) : seenIt S f k w = [⟨rowOf S f k, w⟩] := if_neg h
theorem seenIt_len (S : Nat) (f : Gf) (k : List Cell) (w : Int) : (seenIt S f k w).length ≤ 1 := by unfold seenIt; split <;> simp
theorem seenIt_w {K S : Nat} {f : Gf} {k : List Cell} (hk : k.length = K) (w : Int) (r : List Cell) : wOf (seenIt S f k w) r = if r.take K = k then w * rowW K S f r else 0 := by
  unfold seenIt
  split
  · rename_i h0
    split
    · rename_i hr
      rw [rowW, if_neg (by rw [hr]; simp [h0])]
      simp [wOf]
    · rfl
  · rename_i h0
    simp only [wOf, Int.add_zero]
    by_cases hr : rowOf S f k = r
    · rw [if_pos hr]
      have : r.take K = k := by rw [← hr, rowOf_take hk]
      rw [if_pos this, rowW, if_pos ⟨by rw [this]; exact h0, by rw [this, hr]⟩, Int.mul_one]
    · rw [if_neg hr]
      split
      · rename_i h1
        rw [rowW, if_neg (by rw [h1]; rintro ⟨_, h2⟩; exact hr h2.symm), Int.mul_zero]
      · rfl
/-- the rows of the groups of keys, one behind the other -/
def seenAll (S : Nat) (f : Gf) (ks : List (List Cell)) (w : Int) : List Item := ks.flatMap fun k => seenIt S f k w
theorem seenAll_w {K S : Nat} {f : Gf} {w : Int} : ∀ {ks : List (List Cell)}, ks.Nodup → (∀ k ∈ ks, k.length = K) → ∀ r, wOf (seenAll S f ks w) r = if r.take K ∈ ks then w * rowW K S f r else 0
  | [], _, _, r => by simp [seenAll, wOf]
  | k :: ks, hn, hk, r => by
    obtain ⟨h1, h2⟩ := List.nodup_cons.1 hn
    have ih := seenAll_w (S := S) (f := f) (w := w) h2 (fun x hx => hk x (by simp [hx])) r
    have e : seenAll S f (k :: ks) w = seenIt S f k w ++ seenAll S f ks w := by simp [seenAll]
    rw [e, wOf_append, seenIt_w (hk k (by simp)), ih]
    by_cases hr : r.take K = k
    · subst hr
      rw [if_pos rfl, if_neg h1, if_pos (by simp), Int.add_zero]
    · rw [if_neg hr, Int.zero_add]
      by_cases hm : r.take K ∈ ks
      · rw [if_pos hm, if_pos (by simp [hm])]
      · rw [if_neg hm, if_neg (by simp [hm, hr])]
/-- all that are seen -/
theorem seenAll_rowW {K S : Nat} {f : Gf} {w : Int} {ks : List (List Cell)} (hn : ks.Nodup) (hk : ∀ k ∈ ks, k.length = K) (hs : ∀ k, f k 0 ≠ 0 → k ∈ ks) (r : List Cell) : wOf (seenAll S f ks w) r = w * rowW K S f r := by
  rw [seenAll_w hn hk]
  split
  · rfl
  · rename_i h
    rw [rowW, if_neg (fun hh => h (hs _ hh.1)), Int.mul_zero]
theorem seenAll_len (S : Nat) (f : Gf) (ks : List (List Cell)) (w : Int) : (seenAll S f ks w).length ≤ ks.length := by
  induction ks with
  | nil => simp [seenAll]
  | cons k ks ih =>
    have e : seenAll S f (k :: ks) w = seenIt S f k w ++ seenAll S f ks w := by simp [seenAll]
    have := seenIt_len S f k w
    rw [e, List.length_append, List.length_cons]
    omega
/-- each key's row ahead and its row behind -/
def bothAll (S : Nat) (f g : Gf) (ks : List (List Cell)) : List Item := ks.flatMap fun k => seenIt S f k (-1) ++ seenIt S g k 1
theorem bothAll_w (S : Nat) (f g : Gf) (ks : List (List Cell)) (r : List Cell) : wOf (bothAll S f g ks) r = wOf (seenAll S f ks (-1)) r + wOf (seenAll S g ks 1) r := by
  induction ks with
  | nil => simp [bothAll, seenAll, wOf]
  | cons k ks ih =>
    have e1 : bothAll S f g (k :: ks) = (seenIt S f k (-1) ++ seenIt S g k 1) ++ bothAll S f g ks := by simp [bothAll]
    have e2 : ∀ (f : Gf) (w : Int), seenAll S f (k :: ks) w = seenIt S f k w ++ seenAll S f ks w := fun f w => by simp [seenAll]
    rw [e1, e2, e2, wOf_append, wOf_append, wOf_append, wOf_append, ih]
    omega
theorem bothAll_snoc (S : Nat) (f g : Gf) (ks : List (List Cell)) (k : List Cell) : bothAll S f g (ks ++ [k]) = bothAll S f g ks ++ seenIt S f k (-1) ++ seenIt S g k 1 := by simp [bothAll]
theorem seenAll_snoc (S : Nat) (f : Gf) (ks : List (List Cell)) (k : List Cell) (w : Int) : seenAll S f (ks ++ [k]) w = seenAll S f ks w ++ seenIt S f k w := by simp [seenAll]
theorem bothAll_len (S : Nat) (f g : Gf) (ks : List (List Cell)) : (bothAll S f g ks).length ≤ ks.length * 2 := by
  induction ks with
  | nil => simp [bothAll]
  | cons k ks ih =>
    have e1 : bothAll S f g (k :: ks) = (seenIt S f k (-1) ++ seenIt S g k 1) ++ bothAll S f g ks := by simp [bothAll]
    have h1 := seenIt_len S f k (-1)
    have h2 := seenIt_len S g k 1
    rw [e1, List.length_append, List.length_append, List.length_cons]
    omega

/-! ### what Apply and Rows answer -/
/-- the Z-set of what changes from f to g -/
structure Delta (K S : Nat) (f g : Gf) (z : List Item) : Prop where
  ok : ZOk z
  wts : ∀ r, wOf z r = rowW K S g r - rowW K S f r
/-- the Z-set of the rows -/
structure RowsZ (K S : Nat) (f : Gf) (z : List Item) : Prop where
  ok : ZOk z
  wts : ∀ r, wOf z r = rowW K S f r
theorem Delta.unique {K S : Nat} {f g : Gf} {a b : List Item} (ha : Delta K S f g a) (hb : Delta K S f g b) : a = b := z_unique ha.ok hb.ok fun r => by rw [ha.wts, hb.wts]
theorem RowsZ.unique {K S : Nat} {f : Gf} {a b : List Item} (ha : RowsZ K S f a) (hb : RowsZ K S f b) : a = b := z_unique ha.ok hb.ok fun r => by rw [ha.wts, hb.wts]
theorem Delta.none_ (K S : Nat) (f : Gf) : Delta K S f f [] := ⟨⟨List.Pairwise.nil, by simp⟩, fun r => by simp [wOf]⟩
theorem RowsZ.none_ (K S : Nat) : RowsZ K S gZero [] := ⟨⟨List.Pairwise.nil, by simp⟩, fun r => by simp [wOf, rowW_zero]⟩
/-- the program's items make the Z-set of what changes -/
theorem both_delta {K S : Nat} {f g : Gf} {ks : List (List Cell)} (hn : ks.Nodup) (hk : ∀ k ∈ ks, k.length = K) (hs : ∀ k, k ∉ ks → ∀ i, g k i = f k i) :
    normErr (bothAll S f g ks) = 0 ∧ Delta K S f g (normOut (bothAll S f g ks)) := by
  have hw : ∀ r, wOf (bothAll S f g ks) r = rowW K S g r - rowW K S f r := by
    intro r
    rw [bothAll_w, seenAll_w hn hk, seenAll_w hn hk]
    split
    · omega
    · rename_i h
      have : rowW K S g r = rowW K S f r := by
        unfold rowW
        have e : ∀ i, g (r.take K) i = f (r.take K) i := hs _ h
        have e2 : rowOf S g (r.take K) = rowOf S f (r.take K) := by
          unfold rowOf numsOf
          rw [show g (r.take K) = f (r.take K) from funext e]
        rw [e 0, e2]
      omega
  have he : normErr (bothAll S f g ks) = 0 := normErr_zero.2 fun r => by
    rw [hw]
    rcases rowW_01 K S g r with h1 | h1 <;> rcases rowW_01 K S f r with h2 | h2 <;> rw [h1, h2] <;> decide
  obtain ⟨h1, h2⟩ := normOut_ok he
  exact ⟨he, h1, fun r => (h2 r).trans (hw r)⟩
/-- .. and so do the document's -/
theorem ref_delta {K S : Nat} {f g : Gf} {ks ms : List (List Cell)} (hn : ks.Nodup) (hk : ∀ k ∈ ks, k.length = K) (hs : ∀ k, f k 0 ≠ 0 → k ∈ ks) (hn2 : ms.Nodup) (hk2 : ∀ k ∈ ms, k.length = K) (hs2 : ∀ k, g k 0 ≠ 0 → k ∈ ms) :
    normErr (seenAll S f ks (-1) ++ seenAll S g ms 1) = 0 ∧ Delta K S f g (normOut (seenAll S f ks (-1) ++ seenAll S g ms 1)) := by
  have hw : ∀ r, wOf (seenAll S f ks (-1) ++ seenAll S g ms 1) r = rowW K S g r - rowW K S f r := by
    intro r
    rw [wOf_append, seenAll_rowW hn hk hs, seenAll_rowW hn2 hk2 hs2]
    omega
  have he : normErr (seenAll S f ks (-1) ++ seenAll S g ms 1) = 0 := normErr_zero.2 fun r => by
    rw [hw]
    rcases rowW_01 K S g r with h1 | h1 <;> rcases rowW_01 K S f r with h2 | h2 <;> rw [h1, h2] <;> decide
  obtain ⟨h1, h2⟩ := normOut_ok he
  exact ⟨he, h1, fun r => (h2 r).trans (hw r)⟩
theorem seen_rows {K S : Nat} {f : Gf} {ks : List (List Cell)} (hn : ks.Nodup) (hk : ∀ k ∈ ks, k.length = K) (hs : ∀ k, f k 0 ≠ 0 → k ∈ ks) :
    normErr (seenAll S f ks 1) = 0 ∧ RowsZ K S f (normOut (seenAll S f ks 1)) := by
  have hw : ∀ r, wOf (seenAll S f ks 1) r = rowW K S f r := fun r => by rw [seenAll_rowW hn hk hs, Int.one_mul]
  have he : normErr (seenAll S f ks 1) = 0 := normErr_zero.2 fun r => by
    rw [hw]
    rcases rowW_01 K S f r with h1 | h1 <;> rw [h1] <;> decide
  obtain ⟨h1, h2⟩ := normOut_ok he
  exact ⟨he, h1, fun r => (h2 r).trans (hw r)⟩

/-! ### what the statements want -/
theorem rows_add {K S : Nat} {f g : Gf} {a z b : List Item} (ha : RowsZ K S f a) (hz : Delta K S f g z) (hb : RowsZ K S g b) : addErr a z = 0 ∧ addOut a z = b := by
  obtain ⟨e1, e2⟩ := addErr_ok ha.ok hz.ok
  have hw : ∀ r, wOf (a ++ z) r = rowW K S g r := fun r => by rw [wOf_append, ha.wts, hz.wts]; omega
  obtain ⟨e3, e4⟩ := norm_unique (l := a ++ z) (z := b) (fun r => by
    rw [hw]
    rcases rowW_01 K S g r with h1 | h1 <;> rw [h1] <;> decide) hb.ok (fun r => by rw [hb.wts, hw])
  exact ⟨e1.trans e3, e2.trans e4⟩
theorem rows_one {K S : Nat} {f : Gf} {a : List Item} (ha : RowsZ K S f a) : ∀ x ∈ a, x.w = 1 := by
  intro x hx
  have h1 := wOf_mem ha.ok.1 hx
  rw [ha.wts] at h1
  have h2 := ha.ok.2 x hx
  rcases rowW_01 K S f x.row with h | h <;> omega
theorem rows_row {K S : Nat} {f : Gf} {a : List Item} (ha : RowsZ K S f a) : ∀ x ∈ a, x.row = rowOf S f (x.row.take K) := by
  intro x hx
  have h1 := wOf_mem ha.ok.1 hx
  rw [ha.wts] at h1
  have h2 := ha.ok.2 x hx
  unfold rowW at h1
  split at h1
  · rename_i h
    exact h.2
  · omega
/-- a chain of changes -/
theorem delta_chain {K S : Nat} {f g h : Gf} {x : List Item} {z : List Item} (hx : ∀ r, wOf x r = rowW K S g r - rowW K S f r) (hz : Delta K S g h z) : ∀ r, wOf (x ++ z) r = rowW K S h r - rowW K S f r := by
  intro r
  rw [wOf_append, hx, hz.wts]
  omega
theorem chain_norm {K S : Nat} {f g : Gf} {x : List Item} (hx : ∀ r, wOf x r = rowW K S g r - rowW K S f r) : normErr x = 0 ∧ Delta K S f g (normOut x) := by
  have he : normErr x = 0 := normErr_zero.2 fun r => by
    rw [hx]
    rcases rowW_01 K S g r with h1 | h1 <;> rcases rowW_01 K S f r with h2 | h2 <;> rw [h1, h2] <;> decide
  obtain ⟨h1, h2⟩ := normOut_ok he
  exact ⟨he, h1, fun r => (h2 r).trans (hx r)⟩
theorem delta_rows {K S : Nat} {g : Gf} {z : List Item} (h : Delta K S gZero g z) : RowsZ K S g z := ⟨h.ok, fun r => by rw [h.wts, rowW_zero]; omega⟩
theorem delta_same {K S : Nat} {g : Gf} {z : List Item} (h : Delta K S g g z) : z = [] := h.unique (Delta.none_ K S g)
end Go.Proofs.YtmfbblcipakaiaaGreatDoor

/-! ### Words for memory that the groups' walks share: what may have changed; slices in given blocks; the groups' map as plain data. -/
namespace Go.Proofs.YtmfbblcipakaiaaGreatDoor
open Go.RowKit Go.Maps Go.WideMaps

/-- the blocks that are in X may have changed; the others are as they were -/
structure Chg (X : Nat → Prop) (w w' : World) : Prop where
  os : w'.os = w.os
  tape : w'.tape = w.tape
  output : w'.output = w.output
  size : w.heap.size ≤ w'.heap.size
  block : ∀ b, b < w.heap.size → ¬ X b → w'.heap[b]? = w.heap[b]?
theorem Chg.refl (X : Nat → Prop) (w : World) : Chg X w w := ⟨rfl, rfl, rfl, Nat.le_refl _, fun _ _ _ => rfl⟩
theorem Chg.trans {X Y Z : Nat → Prop} {a b c : World} (h : Chg X a b) (k : Chg Y b c) (h1 : ∀ n, n < a.heap.size → X n → Z n) (h2 : ∀ n, n < a.heap.size → Y n → Z n) : Chg Z a c :=
  ⟨k.os.trans h.os, k.tape.trans h.tape, k.output.trans h.output, Nat.le_trans h.size k.size, fun n hn hz =>
    (k.block n (Nat.lt_of_lt_of_le hn h.size) (fun e => hz (h2 n hn e))).trans (h.block n hn (fun e => hz (h1 n hn e)))⟩
theorem Chg.mono {X Y : Nat → Prop} {a b : World} (h : Chg X a b) (hx : ∀ n, n < a.heap.size → X n → Y n) : Chg Y a b :=
  ⟨h.os, h.tape, h.output, h.size, fun n hn hz => h.block n hn (fun e => hz (hx n hn e))⟩
theorem Chg.of_old {X : Nat → Prop} {a b : World} (h : Old a b) : Chg X a b := ⟨h.os, h.tape, h.output, h.size, fun n hn _ => h.block n hn⟩
theorem Chg.of_below {lo : Nat} {a b : World} (h : Below lo a b) : Chg (fun n => lo ≤ n) a b := ⟨h.os, h.tape, h.output, h.size, fun n _ hz => h.block n (by omega)⟩
theorem Chg.of_grown {r : Nat} {a b : World} (h : a.grownBy b (some r)) : Chg (fun n => n = r) a b := ⟨h.os, h.tape, h.output, h.size, fun n hn hz => h.block n hn (by simpa using hz)⟩
theorem Chg.below {X : Nat → Prop} {lo : Nat} {a b : World} (h : Chg X a b) (hlo : lo ≤ a.heap.size) (hx : ∀ n, n < lo → ¬ X n) : Below lo a b := ⟨h.os, h.tape, h.output, h.size, fun n hn => h.block n (by omega) (hx n hn)⟩
theorem Chg.old {X : Nat → Prop} {a b : World} (h : Chg X a b) (hx : ∀ n, n < a.heap.size → ¬ X n) : Old a b := h.below (Nat.le_refl _) hx
theorem Chg.step {X : Nat → Prop} {a b c : World} (h : Chg X a b) (k : Old b c) : Chg X a c := h.trans (Chg.of_old (X := X) k) (fun _ _ e => e) (fun _ _ e => e)

/-- a slice value of n elements whose cells read as xs, in blocks that are in B -/
def SlB (B : Nat → Prop) (w : World) (v : Value) (n : Nat) (xs : List Value) : Prop :=
  ∃ A cap, v = .slice A n cap ∧ n ≤ cap ∧ cap ≤ maxLen ∧
    (xs ≠ [] → ∃ b off, A = some ⟨b, off, none⟩ ∧ B b ∧ b < w.heap.size ∧ ∀ j u, xs[j]? = some u → w.cell? ⟨b, off + j, none⟩ = some u)
section
variable {B B' : Nat → Prop} {w w' : World} {v : Value} {n lo T : Nat} {xs : List Value}
theorem SlB.sl (h : SlB B w v n xs) : Sl w v n xs := by
  obtain ⟨A, cap, rfl, h1, h2, h3⟩ := h
  refine ⟨A, cap, rfl, h1, h2, fun hx => ?_⟩
  obtain ⟨b, off, rfl, _, _, hc⟩ := h3 hx
  exact ⟨b, off, rfl, hc⟩
theorem SlB.keep (h : SlB B w v n xs) (hs : w.heap.size ≤ w'.heap.size) (hk : ∀ b, b < w.heap.size → B b → w'.heap[b]? = w.heap[b]?) : SlB B w' v n xs := by
  obtain ⟨A, cap, rfl, h1, h2, h3⟩ := h
  refine ⟨A, cap, rfl, h1, h2, fun hx => ?_⟩
  obtain ⟨b, off, rfl, hb, hl, hc⟩ := h3 hx
  exact ⟨b, off, rfl, hb, Nat.lt_of_lt_of_le hl hs, fun j u hu => (World.cell?_of_block (a := ⟨b, off + j, none⟩) (hk b hl hb)).trans (hc j u hu)⟩
theorem SlB.chg {X : Nat → Prop} (h : SlB B w v n xs) (c : Chg X w w') (hd : ∀ b, b < w.heap.size → B b → ¬ X b) : SlB B w' v n xs := h.keep c.size fun b h1 h2 => c.block b h1 (hd b h1 h2)
theorem SlB.old (h : SlB B w v n xs) (o : Old w w') : SlB B w' v n xs := h.keep o.size fun b h1 _ => o.block b h1
theorem SlB.mono (h : SlB B w v n xs) (hB : ∀ b, b < w.heap.size → B b → B' b) : SlB B' w v n xs := by
  obtain ⟨A, cap, rfl, h1, h2, h3⟩ := h
  refine ⟨A, cap, rfl, h1, h2, fun hx => ?_⟩
  obtain ⟨b, off, rfl, hb, hl, hc⟩ := h3 hx
  exact ⟨b, off, rfl, hB b hl hb, hl, hc⟩
theorem SlT.slb (h : SlT T lo w v n xs) : SlB (fun b => lo ≤ b) w v n xs := by
  obtain ⟨A, cap, rfl, h1, h2, h3⟩ := h
  refine ⟨A, cap, rfl, h1, h2, fun hx => ?_⟩
  obtain ⟨b, off, cs, rfl, hl, hh, hc⟩ := h3 hx
  exact ⟨b, off, rfl, hl, block_lt hh, fun j u hu => (cell_of_heap hh).trans (hc j u hu)⟩
theorem SlB.nil_ (w : World) : SlB B w (.slice none 0 0) 0 [] := ⟨none, 0, rfl, Nat.le_refl _, Nat.zero_le _, fun h => absurd rfl h⟩
theorem SlB.form (h : SlB B w v n xs) : ∃ A cap, v = .slice A n cap := by obtain ⟨A, cap, rfl, _⟩ := h; exact ⟨A, cap, rfl⟩
end
theorem Sl.chg {X : Nat → Prop} {w w' : World} {v : Value} {n : Nat} {xs : List Value} (h : Sl w v n xs) (c : Chg X w w') (hd : ∀ (b : Nat) cs T f, w.heap[b]? = some (.cells cs T f) → ¬ X b) : Sl w' v n xs := by
  obtain ⟨A, cap, rfl, h1, h2, h3⟩ := h
  refine ⟨A, cap, rfl, h1, h2, fun hx => ?_⟩
  obtain ⟨b, off, rfl, hc⟩ := h3 hx
  refine ⟨b, off, rfl, fun j u hu => ?_⟩
  have hcell := hc j u hu
  have hl := World.block_lt_of_cell? w _ hcell
  refine (World.cell?_of_block (a := ⟨b, off + j, none⟩) (c.block b hl ?_)).trans hcell
  intro hx
  unfold World.cell? at hcell
  split at hcell
  · rename_i cs T f he
    exact hd b cs T f he hx
  · cases hcell

/-! ### maps from texts to values that are not read -/
abbrev DW := DataW Value
/-- an element reads as itself -/
def rawR (v : Value) : Option (DW × List MemPlace) := some (.held v, [])
theorem str_inv {P : Program} {k : TypeId} (hk : P.underlying k = some .string) {key : Value} {kl : Lit} (h : keyOf P k key = some kl) : ∃ s : ByteArray, key = .string s ∧ kl = .string s.data.toList ∧ s.size ≤ maxLen := by
  rw [keyOf_string hk] at h
  cases key <;> simp [mapKey, hk] at h
  exact ⟨_, rfl, h.2.symm, h.1⟩
theorem str_ext {a b : ByteArray} (h : (Lit.string a.data.toList) = .string b.data.toList) : a = b := bytes_ext (by injection h)
def upd (m : ByteArray → Option Value) (s : ByteArray) (v : Option Value) : ByteArray → Option Value := fun x => if x = s then v else m x
/-- the datum D has what m says -/
structure Has (D : DW) (m : ByteArray → Option Value) : Prop where
  has : ∀ s, Maps.has D (.string s.data.toList) = (m s).isSome
  at_ : ∀ s v, m s = some v → ∀ z, D.atKey (.string s.data.toList) z = .held v
theorem Has.put {D : DW} {m : ByteArray → Option Value} (h : Has D m) (hD : IsMap D) (s : ByteArray) (v : Value) : Has (D.put (.string s.data.toList) (.held v)) (upd m s (some v)) where
  has := fun x => by
    unfold upd
    by_cases e : x = s
    · subst e
      rw [Maps.has_put_same hD (by simp [WideAt.IsKeyLit]), if_pos rfl]; rfl
    · rw [Maps.has_put_other (fun hh => e (str_ext hh)), if_neg e, h.has]
  at_ := fun x u hu z => by
    unfold upd at hu
    by_cases e : x = s
    · subst e
      rw [if_pos rfl] at hu
      cases hu
      exact Maps.atKey_put_same hD (by simp [WideAt.IsKeyLit]) _ z
    · rw [if_neg e] at hu
      rw [Maps.atKey_put_other (fun hh => e (str_ext hh)), h.at_ x u hu]
theorem Has.del {D : DW} {m : ByteArray → Option Value} (h : Has D m) (s : ByteArray) : Has (D.del (.string s.data.toList)) (upd m s none) where
  has := fun x => by
    unfold upd
    by_cases e : x = s
    · subst e
      rw [Maps.has_del_same, if_pos rfl]; rfl
    · rw [Maps.has_del_other (fun hh => e (str_ext hh)), if_neg e, h.has]
  at_ := fun x u hu z => by
    unfold upd at hu
    by_cases e : x = s
    · subst e
      rw [if_pos rfl] at hu
      cases hu
    · rw [if_neg e] at hu
      rw [Maps.atKey_del_other (fun hh => e (str_ext hh)), h.at_ x u hu]

section
variable {P : Program} {k : TypeId} {w : World} {b r n cnt : Nat} {m : ByteArray → Option Value} {left : ByteArray → Bool}
/-- block b is a map of texts, of at most n entries, that has what m says -/
def MapIs (P : Program) (k : TypeId) (w : World) (b n : Nat) (m : ByteArray → Option Value) : Prop := ∃ D : DW, w.ownsMap P k rawR b n D ∧ Has D m
theorem MapIs.made (w : World) (P : Program) (k : TypeId) : MapIs P k (w.alloc (.map #[] 0)) w.heap.size 0 (fun _ => none) :=
  ⟨.map [], World.ownsMap_made w P k rawR, fun _ => rfl, fun _ _ h => by cases h⟩
theorem MapIs.mono (h : MapIs P k w b n m) {n' : Nat} (hn : n ≤ n') : MapIs P k w b n' m := by obtain ⟨D, h1, h2⟩ := h; exact ⟨D, h1.mono hn, h2⟩
theorem MapIs.lt (h : MapIs P k w b n m) : b < w.heap.size := by obtain ⟨D, h1, _⟩ := h; exact h1.lt
theorem MapIs.isMap (h : MapIs P k w b n m) : ∃ es c, w.heap[b]? = some (.map es c) := by obtain ⟨D, ⟨es, c, h1, _⟩, _⟩ := h; exact ⟨es, c, h1⟩
theorem MapIs.keep {w' : World} (h : MapIs P k w b n m) (hb : w'.heap[b]? = w.heap[b]?) : MapIs P k w' b n m := by
  obtain ⟨D, ⟨es, c, h1, h2⟩, h3⟩ := h
  exact ⟨D, ⟨es, c, hb.trans h1, h2⟩, h3⟩
theorem MapIs.old {w' : World} (h : MapIs P k w b n m) (o : Old w w') : MapIs P k w' b n m := h.keep (o.block b h.lt)
theorem MapIs.chg {X : Nat → Prop} {w' : World} (h : MapIs P k w b n m) (c : Chg X w w') (hx : ¬ X b) : MapIs P k w' b n m := h.keep (c.block b h.lt hx)
theorem MapIs.congr {m' : ByteArray → Option Value} (h : MapIs P k w b n m) (e : ∀ s, m s = m' s) : MapIs P k w b n m' := by
  have : m = m' := funext e
  subst this
  exact h
theorem MapIs.look {t e : TypeId} (h : MapIs P k w b n m) (hk : P.underlying k = some .string) (ht : P.underlying t = some (.map k e)) {z : Value} (hz : (zeroValue e).run P w = .ok z w) {s : ByteArray} (hs : s.size ≤ maxLen) :
    (Instr.lookup t (.map (some b)) (.string s) false).run P w = .ok ((m s).getD z) w := by
  obtain ⟨D, h1, h2⟩ := h
  obtain ⟨v, ps, hrun, hv⟩ := h1.lookup (string_keyed hk) ht hz (zd := .held z) (zp := []) rfl (keyOf_string_mk hk hs)
  rw [hrun]
  simp only [rawR, Option.some.injEq, Prod.mk.injEq] at hv
  have hv1 := hv.1
  cases hm : m s with
  | none =>
    rw [Maps.atKey_of_not_has (by rw [h2.has, hm]; rfl)] at hv1
    injection hv1 with hv1
    rw [hv1]; rfl
  | some u =>
    rw [h2.at_ s u hm] at hv1
    injection hv1 with hv1
    rw [hv1]; rfl
theorem MapIs.put {t e : TypeId} (h : MapIs P k w b n m) (hk : P.underlying k = some .string) (ht : P.underlying t = some (.map k e)) (hn : n < maxLen) {s : ByteArray} (hs : s.size ≤ maxLen) (v : Value) :
    ∃ w', (Instr.mapUpdate t (.map (some b)) (.string s) v).run P w = .ok () w' ∧ MapIs P k w' b (n + 1) (upd m s (some v)) ∧ w.grownBy w' (some b) := by
  obtain ⟨D, h1, h2⟩ := h
  obtain ⟨w', hrun, h3, h4⟩ := h1.update (string_keyed hk) ht hn (keyOf_string_mk hk hs) (d := .held v) (ps := []) rfl
  exact ⟨w', hrun, ⟨_, h3, h2.put h1.isMap s v⟩, h4⟩
theorem MapIs.del {t e : TypeId} (h : MapIs P k w b n m) (hk : P.underlying k = some .string) (ht : P.underlying t = some (.map k e)) {s : ByteArray} (hs : s.size ≤ maxLen) (ty : TypeId) :
    ∃ w', (Builtin.delete_ #[t, k] ty #[.map (some b), .string s]).run P w = .ok (.tuple #[]) w' ∧ MapIs P k w' b n (upd m s none) ∧ w.grownBy w' (some b) := by
  obtain ⟨D, h1, h2⟩ := h
  obtain ⟨w', hrun, h3, h4⟩ := h1.drop (string_keyed hk) ht (keyOf_string_mk hk hs) ty
  exact ⟨w', hrun, ⟨_, h3, h2.del s⟩, h4.grown⟩

/-- a range over it is under way -/
def MapRng (P : Program) (k : TypeId) (w : World) (b r n : Nat) (m : ByteArray → Option Value) (left : ByteArray → Bool) (cnt : Nat) : Prop :=
  ∃ (D : DW) (lf : Lit → Bool), w.ranges P k rawR b r n D lf cnt ∧ Has D m ∧ ∀ s, lf (.string s.data.toList) = left s
theorem MapRng.left_eq (h : MapRng P k w b r n m left cnt) : w.rangeLeft b r = cnt := by obtain ⟨D, lf, h1, _⟩ := h; exact h1.left_eq
theorem MapRng.lt (h : MapRng P k w b r n m left cnt) : r < w.heap.size := by obtain ⟨D, lf, h1, _⟩ := h; exact h1.lt
theorem MapRng.is (h : MapRng P k w b r n m left cnt) : MapIs P k w b n m := by obtain ⟨D, lf, h1, h2, _⟩ := h; exact ⟨D, h1.owns, h2⟩
theorem MapRng.keep {w' : World} {row : Option Nat} (h : MapRng P k w b r n m left cnt) (hg : w.grownBy w' row) (hb : some b ≠ row) (hr : some r ≠ row) : MapRng P k w' b r n m left cnt := by
  obtain ⟨D, lf, h1, h2, h3⟩ := h
  exact ⟨D, lf, h1.kept hg hb hr, h2, h3⟩
theorem MapRng.chg {X : Nat → Prop} {w' : World} (h : MapRng P k w b r n m left cnt) (c : Chg X w w') (hb : ¬ X b) (hr : ¬ X r) : MapRng P k w' b r n m left cnt := by
  obtain ⟨D, lf, h1, h2, h3⟩ := h
  have l1 := h1.owns.lt
  have l2 := h1.lt
  obtain ⟨es, clock, since, seen, c0, q1, F, q2, q3, q4, rest⟩ := h1
  exact ⟨D, lf, ⟨es, clock, since, seen, c0, (c.block b l1 hb).trans q1, F, q2, q3, (c.block r l2 hr).trans q4, rest⟩, h2, h3⟩
theorem MapRng.old {w' : World} (h : MapRng P k w b r n m left cnt) (o : Old w w') : MapRng P k w' b r n m left cnt := h.chg (X := fun _ => False) (Chg.of_old o) (fun e => e) (fun e => e)
theorem MapIs.range {t e : TypeId} (h : MapIs P k w b n m) (hk : P.underlying k = some .string) (ht : P.underlying t = some (.map k e)) :
    ∃ w', (Instr.range t (.map (some b))).run P w = .ok (.pointer (some ⟨w.heap.size, 0, none⟩)) w' ∧ (∃ cnt, MapRng P k w' b w.heap.size n m (fun s => (m s).isSome) cnt) ∧ Old w w' ∧ w'.heap.size = w.heap.size + 1 := by
  obtain ⟨D, h1, h2⟩ := h
  obtain ⟨w', hrun, h3, h4, h5⟩ := h1.range (string_keyed hk) ht
  exact ⟨w', hrun, ⟨_, D, _, h3, h2, h2.has⟩, ⟨h4.os, h4.tape, h4.output, h4.size, fun j hj => h4.block j hj (by simp)⟩, h5⟩
theorem MapRng.next (h : MapRng P k w b r n m left cnt) (hk : P.underlying k = some .string) (ty : TypeId) :
    ((∀ s, left s = false) ∧ (Instr.next (.pointer (some ⟨r, 0, none⟩)) false ty).run P w = .ok (.tuple #[.bool false]) w) ∨
    ∃ s v w' cnt', s.size ≤ maxLen ∧ left s = true ∧ m s = some v ∧ (Instr.next (.pointer (some ⟨r, 0, none⟩)) false ty).run P w = .ok (.tuple #[.bool true, .string s, v]) w' ∧
      MapRng P k w' b r n m (fun x => left x && !decide (x = s)) cnt' ∧ cnt' < cnt ∧ w.grownBy w' (some r) ∧ w'.heap.size = w.heap.size ∧ (Instr.entry (.pointer (some ⟨r, 0, none⟩))).run P w' = .ok (.tuple #[.string s, v]) w' := by
  obtain ⟨D, lf, h1, h2, h3⟩ := h
  rcases h1.next (string_keyed hk) ty with ⟨_, hl, hrun⟩ | ⟨key, v, kl, y, w', cnt', hkey, hlk, hv, hat, hrun, hrg, hlt, hgr, hsz, hen⟩
  · exact .inl ⟨fun s => by rw [← h3, hl], hrun⟩
  · obtain ⟨s, rfl, rfl, hsl⟩ := str_inv hk hkey
    refine .inr ⟨s, v, w', cnt', hsl, by rw [← h3, hlk], ?_, hrun, ⟨D, _, hrg, h2, fun x => ?_⟩, hlt, hgr, hsz, hen⟩
    · have hh : Maps.has D (.string s.data.toList) = true := Maps.has_true_of_atKey hat
      rw [h2.has] at hh
      obtain ⟨u, hu⟩ := Option.isSome_iff_exists.1 hh
      have h4 := h2.at_ s u hu .nil
      rw [hat .nil] at h4
      simp only [rawR, Option.some.injEq] at hv
      subst hv
      injection h4 with h4
      rw [hu, h4]
    · show (lf (.string x.data.toList) && !(Lit.string x.data.toList).sameKey (.string s.data.toList)) = _
      rw [h3]
      congr 2
      show (x.data.toList == s.data.toList) = decide (x = s)
      by_cases e : x = s
      · subst e; simp
      · have : ¬ x.data.toList = s.data.toList := fun hh => e (bytes_ext hh)
        rw [beq_eq_false_iff_ne.2 this, decide_eq_false e]
end

/-! ### at the operations -/
section
variable {P : Program} (w : World) {o : Oper} {a : Act} {K : Act → World → Prop} {Q : Exit → Act → World → Prop}
theorem step_map_put (mo x vo : Operand) (t : TypeId) (hop : o.op = Op.mapUpdate t mo x vo) (k e : TypeId) (hk : P.underlying k = some .string) (ht : P.underlying t = some (.map k e)) (b n : Nat) (m : ByteArray → Option Value)
    (hm : a.eval mo = .map (some b)) (h : MapIs P k w b n m) (hn : n < maxLen) (s : ByteArray) (hs : s.size ≤ maxLen) (v : Value) (hx : a.eval x = .string s) (hv : a.eval vo = v)
    (hK : ∀ w', MapIs P k w' b (n + 1) (upd m s (some v)) → w.grownBy w' (some b) → K (a.put o.dst undef) w') : o.wp P a w K Q := by
  obtain ⟨w', hrun, r1, r2⟩ := h.put hk ht hn hs v
  unfold Oper.wp
  simp [execOp, hop, hm, hx, hv, hrun, Result.andThen]
  exact hK w' r1 r2
theorem step_map_del (mo x : Operand) (t k : TypeId) (hop : o.op = Op.call { callee := Callee.builtin Builtin.delete, args := #[mo, x], argTypes := #[t, k] }) (e : TypeId) (hk : P.underlying k = some .string) (ht : P.underlying t = some (.map k e)) (b n : Nat) (m : ByteArray → Option Value)
    (hm : a.eval mo = .map (some b)) (h : MapIs P k w b n m) (s : ByteArray) (hs : s.size ≤ maxLen) (hx : a.eval x = .string s)
    (hK : ∀ w', MapIs P k w' b n (upd m s none) → w.grownBy w' (some b) → K (a.put o.dst (.tuple #[])) w') : o.wp P a w K Q := by
  obtain ⟨w', hrun, r1, r2⟩ := h.del hk ht hs o.type
  unfold Oper.wp
  simp [execOp, hop, resolve, invoke, builtin, hm, hx, hrun, Result.andThen]
  exact hK w' r1 r2
theorem step_map_range (mo : Operand) (t : TypeId) (hop : o.op = Op.range t mo) (k e : TypeId) (hk : P.underlying k = some .string) (ht : P.underlying t = some (.map k e)) (b n : Nat) (m : ByteArray → Option Value)
    (hm : a.eval mo = .map (some b)) (h : MapIs P k w b n m)
    (hK : ∀ w' cnt, MapRng P k w' b w.heap.size n m (fun s => (m s).isSome) cnt → Old w w' → w'.heap.size = w.heap.size + 1 → K (a.put o.dst (.pointer (some ⟨w.heap.size, 0, none⟩))) w') : o.wp P a w K Q := by
  obtain ⟨w', hrun, ⟨cnt, r1⟩, r2, r3⟩ := h.range hk ht
  unfold Oper.wp
  simp [execOp, hop, hm, hrun, Result.andThen]
  exact hK w' cnt r1 r2 r3
theorem step_map_next {β : Type} (it : Operand) (hop : o.op = Op.next it false) (k : TypeId) (hk : P.underlying k = some .string) (mkV : β → Value) (b r n : Nat) (m : ByteArray → Option Value) (left : ByteArray → Bool) (cnt : Nat)
    (inv : ∀ s v, m s = some v → ∃ c, v = mkV c) (hit : a.eval it = .pointer (some ⟨r, 0, none⟩)) (h : MapRng P k w b r n m left cnt)
    (hDone : (∀ s, left s = false) → K (a.put o.dst (.tuple #[.bool false])) w)
    (hMore : ∀ (s : ByteArray) (c : β) (w' : World) (cnt' : Nat), s.size ≤ maxLen → left s = true → m s = some (mkV c) → MapRng P k w' b r n m (fun x => left x && !decide (x = s)) cnt' → cnt' < cnt →
      w.grownBy w' (some r) → w'.heap.size = w.heap.size → (Instr.entry (.pointer (some ⟨r, 0, none⟩))).run P w' = .ok (.tuple #[.string s, mkV c]) w' → K (a.put o.dst (.tuple #[.bool true, .string s, mkV c])) w') : o.wp P a w K Q := by
  unfold Oper.wp
  rcases h.next hk o.type with ⟨hl, hrun⟩ | ⟨s, v, w', cnt', hsl, hlk, hv, hrun, hrg, hlt, hgr, hsz, hen⟩
  · simp [execOp, hop, hit, hrun, Result.andThen]
    exact hDone hl
  · obtain ⟨c, rfl⟩ := inv s v hv
    simp [execOp, hop, hit, hrun, Result.andThen]
    exact hMore s c w' cnt' hsl hlk hv hrg hlt hgr hsz hen
end
end Go.Proofs.YtmfbblcipakaiaaGreatDoor

/-! ### Entries in memory: slices of a key, of values, and a weight. No program is named here. -/
namespace Go.Proofs.YtmfbblcipakaiaaGreatDoor
open Go.RowKit

def entVals : List (Value × Value) → List Ent → List Value
  | v :: vs, x :: xs => v.1 :: v.2 :: .int .i64 x.w :: entVals vs xs
  | _, _ => []
theorem entVals_length : ∀ (vs : List (Value × Value)) (l : List Ent), vs.length = l.length → (entVals vs l).length = l.length * 3
  | [], [], _ => rfl
  | _ :: vs, _ :: l, h => by simp only [entVals, List.length_cons]; have := entVals_length vs l (by simpa using h); omega
theorem entVals_get : ∀ (vs : List (Value × Value)) (l : List Ent) (i : Nat) (h : i < l.length) (h' : i < vs.length),
    (entVals vs l)[i * 3]? = some vs[i].1 ∧ (entVals vs l)[i * 3 + 1]? = some vs[i].2 ∧ (entVals vs l)[i * 3 + 2]? = some (.int .i64 l[i].w)
  | [], l, i, h, h' => by simp at h'
  | _ :: _, [], i, h, h' => by simp at h
  | v :: vs, x :: l, 0, _, _ => by simp [entVals]
  | v :: vs, x :: l, i + 1, h, h' => by
    have := entVals_get vs l i (by simpa using h) (by simpa using h')
    have e1 : (i + 1) * 3 = i * 3 + 1 + 1 + 1 := by omega
    rw [e1]
    simp only [entVals, List.getElem?_cons_succ, List.getElem_cons_succ]
    exact this
theorem entVals_append : ∀ (vs : List (Value × Value)) (l : List Ent) (us : List (Value × Value)) (m : List Ent), vs.length = l.length → entVals (vs ++ us) (l ++ m) = entVals vs l ++ entVals us m
  | [], [], us, m, _ => rfl
  | v :: vs, x :: l, us, m, h => by
    simp only [List.cons_append, entVals]
    rw [entVals_append vs l us m (by simpa using h)]
theorem entVals_one (v : Value × Value) (x : Ent) : entVals [v] [x] = [v.1, v.2, .int .i64 x.w] := rfl
theorem entVals_ne {vs : List (Value × Value)} {l : List Ent} (h : vs.length = l.length) (h0 : 0 < l.length) : entVals vs l ≠ [] := by
  intro e
  have := entVals_length vs l h
  rw [e] at this
  simp at this
  omega
/-- a value that is a slice, or leads nowhere: one cell -/
theorem entVals_cell {vs : List (Value × Value)} {l : List Ent} (h : ∀ v ∈ vs, v.1.oneCell' = true ∧ v.2.oneCell' = true) : ∀ u ∈ entVals vs l, u.oneCell' = true := by
  induction vs generalizing l with
  | nil => intro u hu; cases l <;> simp [entVals] at hu
  | cons v vs ih =>
    cases l with
    | nil => intro u hu; simp [entVals] at hu
    | cons x l =>
      intro u hu
      simp only [entVals, List.mem_cons] at hu
      rcases hu with rfl | rfl | rfl | hu
      · exact (h v (by simp)).1
      · exact (h v (by simp)).2
      · rfl
      · exact ih (fun y hy => h y (by simp [hy])) u hu

/-- a slice value that is the entries l: their keys and values are the values vs -/
def EntsIs (w : World) (v : Value) (l : List Ent) : Prop :=
  ∃ vs : List (Value × Value), vs.length = l.length ∧ Sl w v l.length (entVals vs l) ∧ ∀ i, (h : i < l.length) → (h' : i < vs.length) → RowIs w vs[i].1 l[i].key ∧ RowIs w vs[i].2 l[i].vals
/-- .. in memory from block lo on: the entries in blocks of their type, so the rows -/
def EntsT (tE tC lo : Nat) (w : World) (v : Value) (l : List Ent) : Prop :=
  ∃ vs : List (Value × Value), vs.length = l.length ∧ SlT tE lo w v l.length (entVals vs l) ∧
    ∀ i, (h : i < l.length) → (h' : i < vs.length) → SlT tC lo w vs[i].1 l[i].key.length (rowVals l[i].key) ∧ SlT tC lo w vs[i].2 l[i].vals.length (rowVals l[i].vals)
/-- .. that the call owns, and may append to -/
def EntsOwn (tE tC base : Nat) (w : World) (v : Value) (l : List Ent) : Prop :=
  ∃ vs : List (Value × Value), vs.length = l.length ∧ w.ownsRow base tE 3 v l.length (entVals vs l) ∧
    ∀ i, (h : i < l.length) → (h' : i < vs.length) → SlT tC base w vs[i].1 l[i].key.length (rowVals l[i].key) ∧ SlT tC base w vs[i].2 l[i].vals.length (rowVals l[i].vals)
section
variable {w w' : World} {v : Value} {l : List Ent} {tE tC lo base : Nat}
theorem EntsIs.old (h : EntsIs w v l) (hb : Old w w') : EntsIs w' v l := by
  obtain ⟨vs, h1, h2, h3⟩ := h
  exact ⟨vs, h1, h2.old hb, fun i hi hi' => ⟨(h3 i hi hi').1.old hb, (h3 i hi hi').2.old hb⟩⟩
theorem EntsIs.chg {X : Nat → Prop} (h : EntsIs w v l) (c : Chg X w w') (hd : ∀ (b : Nat) cs T f, w.heap[b]? = some (.cells cs T f) → ¬ X b) : EntsIs w' v l := by
  obtain ⟨vs, h1, h2, h3⟩ := h
  exact ⟨vs, h1, h2.chg c hd, fun i hi hi' => ⟨(h3 i hi hi').1.chg c hd, (h3 i hi hi').2.chg c hd⟩⟩
theorem EntsT.old (h : EntsT tE tC lo w v l) (hb : Old w w') : EntsT tE tC lo w' v l := by
  obtain ⟨vs, h1, h2, h3⟩ := h
  exact ⟨vs, h1, h2.old hb, fun i hi hi' => ⟨(h3 i hi hi').1.old hb, (h3 i hi hi').2.old hb⟩⟩
theorem EntsT.mono {lo' : Nat} (h : EntsT tE tC lo w v l) (hl : lo' ≤ lo) : EntsT tE tC lo' w v l := by
  obtain ⟨vs, h1, h2, h3⟩ := h
  exact ⟨vs, h1, h2.mono hl, fun i hi hi' => ⟨(h3 i hi hi').1.mono hl, (h3 i hi hi').2.mono hl⟩⟩
theorem EntsT.is (h : EntsT tE tC lo w v l) : EntsIs w v l := by
  obtain ⟨vs, h1, h2, h3⟩ := h
  exact ⟨vs, h1, h2.sl, fun i hi hi' => ⟨(h3 i hi hi').1.sl, (h3 i hi hi').2.sl⟩⟩
theorem EntsOwn.old (h : EntsOwn tE tC base w v l) (hb : Old w w') : EntsOwn tE tC base w' v l := by
  obtain ⟨vs, h1, h2, h3⟩ := h
  exact ⟨vs, h1, own_old h2 hb, fun i hi hi' => ⟨(h3 i hi hi').1.old hb, (h3 i hi hi').2.old hb⟩⟩
theorem EntsOwn.t (h : EntsOwn tE tC base w v l) : EntsT tE tC base w v l := by
  obtain ⟨vs, h1, h2, h3⟩ := h
  exact ⟨vs, h1, SlT.of_own h2, h3⟩
theorem EntsOwn.nil_ (w : World) : EntsOwn tE tC base w (.slice none 0 0) [] :=
  ⟨[], rfl, World.ownsRow_nil w base tE 3, fun i hi => absurd hi (by simp)⟩
theorem EntsIs.nil_ (w : World) : EntsIs w (.slice none 0 0) [] := ⟨[], rfl, Sl.nil_ w, fun i hi => absurd hi (by simp)⟩
/-- the cells of the entries, opened -/
theorem EntsIs.open_ (h : EntsIs w v l) : ∃ (A : Option Addr) (cap : Nat) (us vs : List Value), v = .slice A l.length cap ∧ l.length ≤ cap ∧ cap ≤ maxLen ∧ l.length ≤ us.length ∧ l.length ≤ vs.length ∧
    (∀ i, (h : i < l.length) → (h' : i < us.length) → RowIs w us[i] l[i].key) ∧ (∀ i, (h : i < l.length) → (h' : i < vs.length) → RowIs w vs[i] l[i].vals) ∧
    (l.length = 0 ∨ ∃ b off, A = some ⟨b, off, none⟩ ∧ ∀ i, (hi : i < l.length) → (hi1 : i < us.length) → (hi2 : i < vs.length) →
      w.cell? ⟨b, off + i * 3, none⟩ = some us[i] ∧ w.cell? ⟨b, off + i * 3 + 1, none⟩ = some vs[i] ∧ w.cell? ⟨b, off + i * 3 + 2, none⟩ = some (.int .i64 l[i].w)) := by
  obtain ⟨vs, h1, ⟨A, cap, rfl, h2, h3, h4⟩, h5⟩ := h
  refine ⟨A, cap, vs.map (·.1), vs.map (·.2), rfl, h2, h3, by simp; omega, by simp; omega, fun i hi hi' => ?_, fun i hi hi' => ?_, ?_⟩
  · have := (h5 i hi (by simpa using hi')).1
    simpa using this
  · have := (h5 i hi (by simpa using hi')).2
    simpa using this
  · rcases Nat.eq_zero_or_pos l.length with h0 | h0
    · exact .inl h0
    · obtain ⟨b, off, rfl, hc⟩ := h4 (entVals_ne h1 h0)
      refine .inr ⟨b, off, rfl, fun i hi hi1 hi2 => ?_⟩
      have hv : i < vs.length := by simpa using hi1
      obtain ⟨g1, g2, g3⟩ := entVals_get vs l i hi hv
      refine ⟨by simpa using hc _ _ g1, ?_, ?_⟩
      · have := hc _ _ g2
        rw [← Nat.add_assoc] at this
        simpa using this
      · have := hc _ _ g3
        rw [← Nat.add_assoc] at this
        exact this
end
theorem ItemsIs.chg {w w' : World} {v : Value} {l : List Item} {X : Nat → Prop} (h : ItemsIs w v l) (c : Chg X w w') (hd : ∀ (b : Nat) cs T f, w.heap[b]? = some (.cells cs T f) → ¬ X b) : ItemsIs w' v l := by
  obtain ⟨vs, h1, h2, h3⟩ := h
  exact ⟨vs, h1, h2.chg c hd, fun i hi hi' => (h3 i hi hi').chg c hd⟩
theorem SlT.chg {T lo n : Nat} {w w' : World} {v : Value} {xs : List Value} {X : Nat → Prop} (h : SlT T lo w v n xs) (c : Chg X w w') (hd : ∀ (b : Nat) cs f, lo ≤ b → w.heap[b]? = some (.cells cs T f) → ¬ X b) : SlT T lo w' v n xs := by
  obtain ⟨A, cap, rfl, h1, h2, h3⟩ := h
  refine ⟨A, cap, rfl, h1, h2, fun hx => ?_⟩
  obtain ⟨b, off, cs, rfl, hl, hh, hc⟩ := h3 hx
  exact ⟨b, off, cs, rfl, hl, (c.block b (block_lt hh) (hd b cs _ hl hh)).trans hh, hc⟩
theorem ItemsT.chg {w w' : World} {v : Value} {l : List Item} {tI tC lo : Nat} {X : Nat → Prop} (h : ItemsT tI tC lo w v l) (c : Chg X w w') (hd : ∀ (b : Nat) cs T f, lo ≤ b → w.heap[b]? = some (.cells cs T f) → ¬ X b) : ItemsT tI tC lo w' v l := by
  obtain ⟨vs, h1, h2, h3⟩ := h
  exact ⟨vs, h1, h2.chg c (fun b cs f hl hh => hd b cs tI f hl hh), fun i hi hi' => (h3 i hi hi').chg c (fun b cs f hl hh => hd b cs tC f hl hh)⟩
theorem EntsT.chg {w w' : World} {v : Value} {l : List Ent} {tE tC lo : Nat} {X : Nat → Prop} (h : EntsT tE tC lo w v l) (c : Chg X w w') (hd : ∀ (b : Nat) cs T f, lo ≤ b → w.heap[b]? = some (.cells cs T f) → ¬ X b) : EntsT tE tC lo w' v l := by
  obtain ⟨vs, h1, h2, h3⟩ := h
  exact ⟨vs, h1, h2.chg c (fun b cs f hl hh => hd b cs tE f hl hh), fun i hi hi' => ⟨(h3 i hi hi').1.chg c (fun b cs f hl hh => hd b cs tC f hl hh), (h3 i hi hi').2.chg c (fun b cs f hl hh => hd b cs tC f hl hh)⟩⟩
end Go.Proofs.YtmfbblcipakaiaaGreatDoor
