/- Groups: what entries come to, and the rows of groups: plain laws. No program is named here. -/
import Derived.Test.YtmfbblcipakaiaaGreatDoorSum
namespace Go.Proofs.YtmfbblcipakaiaaGreatDoor

/-- an entry: a key, numbers or nothing, and how often it is there -/
structure Ent where
  key : List Cell
  vals : List Cell
  w : Int

/-- what an entry adds to the count (0) and to the sums -/
def part (e : Ent) : Nat → Int
  | 0 => e.w
  | i + 1 => match e.vals[i]? with
    | some c => if c.null then 0 else e.w * c.n
    | none => 0
def tot : List Ent → List Cell → Nat → Int
  | [], _, _ => 0
  | e :: l, k, i => (if e.key = k then part e i else 0) + tot l k i
theorem tot_append (l m : List Ent) (k : List Cell) (i : Nat) : tot (l ++ m) k i = tot l k i + tot m k i := by
  induction l with
  | nil => simp [tot]
  | cons e l ih => simp only [List.cons_append, tot, ih]; omega
theorem tot_snoc (l : List Ent) (e : Ent) (k : List Cell) (i : Nat) : tot (l ++ [e]) k i = tot l k i + if e.key = k then part e i else 0 := by
  rw [tot_append]; simp [tot]
theorem tot_none {l : List Ent} {k : List Cell} (h : ∀ e ∈ l, e.key ≠ k) (i : Nat) : tot l k i = 0 := by
  induction l with
  | nil => rfl
  | cons e l ih => rw [tot, if_neg (h e (by simp)), ih (fun y hy => h y (by simp [hy]))]; rfl
theorem tot_turn (l : List Ent) (n : Nat) (k : List Cell) (i : Nat) : tot (l.drop n ++ l.take n) k i = tot l k i := by
  rw [tot_append, Int.add_comm, ← tot_append, List.take_append_drop]
def turned (e : Ent) : Ent := ⟨e.key, e.vals, -e.w⟩
theorem part_turned (e : Ent) (i : Nat) : part (turned e) i = - part e i := by
  cases i with
  | zero => rfl
  | succ i =>
    simp only [part, turned]
    split
    · split
      · rfl
      · rw [Int.neg_mul]
    · rfl
theorem tot_turned (l : List Ent) (k : List Cell) (i : Nat) : tot (l.map turned) k i = - tot l k i := by
  induction l with
  | nil => rfl
  | cons e l ih =>
    simp only [List.map_cons, tot, ih, part_turned]
    have : (turned e).key = e.key := rfl
    rw [this]
    split <;> omega

/-! ### which entries may be -/
def valB (c : Cell) : Bool := c.s.data.toList.isEmpty && (!c.null || c.n == 0)
def entMay (K S : Nat) (e : Ent) : Bool := decide (e.key.length = K) && decide (e.vals.length = S) && e.vals.all valB
def allMay (K S : Nat) (l : List Ent) : Bool := l.all (entMay K S)
theorem entMay_iff {K S : Nat} {e : Ent} : entMay K S e = true ↔ e.key.length = K ∧ e.vals.length = S ∧ ∀ c ∈ e.vals, valB c = true := by
  simp [entMay, and_assoc]
theorem allMay_append {K S : Nat} {l m : List Ent} : allMay K S (l ++ m) = (allMay K S l && allMay K S m) := by simp [allMay]

/-! ### the state: of each key, numbers -/
abbrev Gf := List Cell → Nat → Int
def gAdd (f : Gf) (l : List Ent) : Gf := fun k i => f k i + tot l k i
def gZero : Gf := fun _ _ => 0
theorem gAdd_append (f : Gf) (l m : List Ent) : gAdd (gAdd f l) m = gAdd f (l ++ m) := by
  funext k i; simp only [gAdd, tot_append]; omega
theorem gAdd_nil (f : Gf) : gAdd f [] = f := by funext k i; simp [gAdd, tot]
def numsOf (S : Nat) (f : Gf) (k : List Cell) : List Int := (List.range (S + 1)).map (f k)
theorem numsOf_length (S : Nat) (f : Gf) (k : List Cell) : (numsOf S f k).length = S + 1 := by simp [numsOf]
theorem numsOf_get (S : Nat) (f : Gf) (k : List Cell) (i : Nat) (h : i ≤ S) : (numsOf S f k)[i]? = some (f k i) := by
  have : i < S + 1 := by omega
  simp [numsOf, this]
def restB (n : Int) : Bool := n != 0
/-- is something left of a group? -/
def leftB (S : Nat) (f : Gf) (k : List Cell) : Bool := (numsOf S f k).any restB
theorem leftB_false {S : Nat} {f : Gf} {k : List Cell} : leftB S f k = false ↔ ∀ i, i ≤ S → f k i = 0 := by
  unfold leftB
  rw [List.any_eq_false]
  constructor
  · intro h i hi
    have := h (f k i) (List.mem_of_getElem? (numsOf_get S f k i hi))
    simpa [restB] using this
  · intro h n hn
    obtain ⟨i, hi, rfl⟩ := List.mem_map.1 hn
    have := List.mem_range.1 hi
    simp [restB, h i (by omega)]
def okB (S : Nat) (f : Gf) (l : List Ent) : Bool := l.all fun e => (numsOf S (gAdd f l) e.key).all fun n => decide (fit n)
theorem okB_iff {S : Nat} {f : Gf} {l : List Ent} : okB S f l = true ↔ ∀ e ∈ l, ∀ i, i ≤ S → fit (gAdd f l e.key i) := by
  unfold okB
  rw [List.all_eq_true]
  constructor
  · intro h e he i hi
    exact of_decide_eq_true (List.all_eq_true.1 (h e he) _ (List.mem_of_getElem? (numsOf_get S (gAdd f l) e.key i hi)))
  · intro h e he
    rw [List.all_eq_true]
    intro n hn
    obtain ⟨i, hi, rfl⟩ := List.mem_map.1 hn
    have := List.mem_range.1 hi
    exact decide_eq_true (h e he i (by omega))
/-- what Apply answers as its error -/
def appErr (K S : Nat) (f : Gf) (l : List Ent) : Int := if allMay K S l then (if okB S f l then 0 else 50) else 2
/-- the state behind Apply -/
def appF (K S : Nat) (f : Gf) (l : List Ent) : Gf := if appErr K S f l = 0 then gAdd f l else f
theorem appErr_zero {K S : Nat} {f : Gf} {l : List Ent} : appErr K S f l = 0 ↔ allMay K S l = true ∧ okB S f l = true := by
  unfold appErr
  cases allMay K S l <;> cases okB S f l <;> simp
theorem appErr_may {K S : Nat} {f : Gf} {l : List Ent} (h : allMay K S l = false) : appErr K S f l = 2 ∧ appF K S f l = f := by
  have : appErr K S f l = 2 := by simp [appErr, h]
  exact ⟨this, by rw [appF, if_neg (by omega)]⟩
theorem appErr_over {K S : Nat} {f : Gf} {l : List Ent} (h : allMay K S l = true) (h2 : okB S f l = false) : appErr K S f l = 50 ∧ appF K S f l = f := by
  have : appErr K S f l = 50 := by simp [appErr, h, h2]
  exact ⟨this, by rw [appF, if_neg (by omega)]⟩
theorem appErr_ok {K S : Nat} {f : Gf} {l : List Ent} (h : allMay K S l = true) (h2 : okB S f l = true) : appErr K S f l = 0 ∧ appF K S f l = gAdd f l := by
  have : appErr K S f l = 0 := by simp [appErr, h, h2]
  exact ⟨this, by rw [appF, if_pos this]⟩
theorem appErr_or (K S : Nat) (f : Gf) (l : List Ent) : appErr K S f l = 0 ∨ appErr K S f l = 2 ∨ appErr K S f l = 50 := by
  unfold appErr
  cases allMay K S l <;> cases okB S f l <;> simp
def GFit (S : Nat) (f : Gf) : Prop := ∀ k i, i ≤ S → fit (f k i)
theorem GFit.zero (S : Nat) : GFit S gZero := fun _ _ _ => by simp [gZero, fit]
theorem GFit.app {K S : Nat} {f : Gf} {l : List Ent} (h : GFit S f) : GFit S (appF K S f l) := by
  unfold appF
  split
  · rename_i he
    obtain ⟨_, h2⟩ := appErr_zero.1 he
    intro k i hi
    by_cases hk : ∃ e ∈ l, e.key = k
    · obtain ⟨e, he, rfl⟩ := hk
      exact okB_iff.1 h2 e he i hi
    · have : tot l k i = 0 := tot_none (fun e he hh => hk ⟨e, he, hh⟩) i
      unfold gAdd
      rw [this, Int.add_zero]
      exact h k i hi
  · exact h
/-- keys of another length have nothing -/
def GLen (K : Nat) (f : Gf) : Prop := ∀ k i, k.length ≠ K → f k i = 0
theorem GLen.zero (K : Nat) : GLen K gZero := fun _ _ _ => rfl
theorem GLen.app {K S : Nat} {f : Gf} {l : List Ent} (h : GLen K f) : GLen K (appF K S f l) := by
  unfold appF
  split
  · rename_i he
    obtain ⟨h1, _⟩ := appErr_zero.1 he
    intro k i hk
    unfold gAdd
    rw [h k i hk, tot_none (fun e he hh => hk (by
      have := (entMay_iff.1 (List.all_eq_true.1 h1 e he)).1
      rw [← hh, this])) i]
    rfl
  · exact h

/-! ### rows of groups -/
def numCell (n : Int) : Cell := ⟨false, n, ⟨#[]⟩⟩
def rowOf (S : Nat) (f : Gf) (k : List Cell) : List Cell := k ++ (numsOf S f k).map numCell
theorem rowOf_length (S : Nat) (f : Gf) (k : List Cell) : (rowOf S f k).length = k.length + (S + 1) := by simp [rowOf, numsOf]
theorem rowOf_take {S K : Nat} {f : Gf} {k : List Cell} (h : k.length = K) : (rowOf S f k).take K = k := by subst h; simp [rowOf]
/-- the weight of a row among the rows of the groups that are seen -/
def rowW (K S : Nat) (f : Gf) (r : List Cell) : Int := if f (r.take K) 0 ≠ 0 ∧ r = rowOf S f (r.take K) then 1 else 0
theorem rowW_01 (K S : Nat) (f : Gf) (r : List Cell) : rowW K S f r = 0 ∨ rowW K S f r = 1 := by unfold rowW; split <;> simp
theorem rowW_zero (K S : Nat) (r : List Cell) : rowW K S gZero r = 0 := by simp [rowW, gZero]
def seenIt (S : Nat) (f : Gf) (k : List Cell) (w : Int) : List Item := if f k 0 = 0 then [] else [⟨rowOf S f k, w⟩]
theorem seenIt_none {S : Nat} {f : Gf} {k : List Cell} (h : f k 0 = 0) (w : Int) : seenIt S f k w = [] := if_pos h
theorem seenIt_one {S : Nat} {f : Gf} {k : List Cell} (h : f k 0 ≠ 0) (w : Int) : seenIt S f k w = [⟨rowOf S f k, w⟩] := if_neg h
theorem seenIt_len (S : Nat) (f : Gf) (k : List Cell) (w : Int) : (seenIt S f k w).length ≤ 1 := by unfold seenIt; split <;> simp
theorem seenIt_w {K S : Nat} {f : Gf} {k : List Cell} (hk : k.length = K) (w : Int) (r : List Cell) : wOf (seenIt S f k w) r = if r.take K = k then w * rowW K S f r else 0 := by
  unfold seenIt
  split
  · rename_i h0
    split
    · rename_i hr
      rw [rowW, if_neg (by rw [hr]; simp [h0])]
      simp [wOf]
    · rfl
  · rename_i h0
    simp only [wOf, Int.add_zero]
    by_cases hr : rowOf S f k = r
    · rw [if_pos hr]
      have : r.take K = k := by rw [← hr, rowOf_take hk]
      rw [if_pos this, rowW, if_pos ⟨by rw [this]; exact h0, by rw [this, hr]⟩, Int.mul_one]
    · rw [if_neg hr]
      split
      · rename_i h1
        rw [rowW, if_neg (by rw [h1]; rintro ⟨_, h2⟩; exact hr h2.symm), Int.mul_zero]
      · rfl
/-- the rows of the groups of keys, one behind the other -/
def seenAll (S : Nat) (f : Gf) (ks : List (List Cell)) (w : Int) : List Item := ks.flatMap fun k => seenIt S f k w
theorem seenAll_w {K S : Nat} {f : Gf} {w : Int} : ∀ {ks : List (List Cell)}, ks.Nodup → (∀ k ∈ ks, k.length = K) → ∀ r, wOf (seenAll S f ks w) r = if r.take K ∈ ks then w * rowW K S f r else 0
  | [], _, _, r => by simp [seenAll, wOf]
  | k :: ks, hn, hk, r => by
    obtain ⟨h1, h2⟩ := List.nodup_cons.1 hn
    have ih := seenAll_w (S := S) (f := f) (w := w) h2 (fun x hx => hk x (by simp [hx])) r
    have e : seenAll S f (k :: ks) w = seenIt S f k w ++ seenAll S f ks w := by simp [seenAll]
    rw [e, wOf_append, seenIt_w (hk k (by simp)), ih]
    by_cases hr : r.take K = k
    · subst hr
      rw [if_pos rfl, if_neg h1, if_pos (by simp), Int.add_zero]
    · rw [if_neg hr, Int.zero_add]
      by_cases hm : r.take K ∈ ks
      · rw [if_pos hm, if_pos (by simp [hm])]
      · rw [if_neg hm, if_neg (by simp [hm, hr])]
/-- all that are seen -/
theorem seenAll_rowW {K S : Nat} {f : Gf} {w : Int} {ks : List (List Cell)} (hn : ks.Nodup) (hk : ∀ k ∈ ks, k.length = K) (hs : ∀ k, f k 0 ≠ 0 → k ∈ ks) (r : List Cell) : wOf (seenAll S f ks w) r = w * rowW K S f r := by
  rw [seenAll_w hn hk]
  split
  · rfl
  · rename_i h
    rw [rowW, if_neg (fun hh => h (hs _ hh.1)), Int.mul_zero]
theorem seenAll_len (S : Nat) (f : Gf) (ks : List (List Cell)) (w : Int) : (seenAll S f ks w).length ≤ ks.length := by
  induction ks with
  | nil => simp [seenAll]
  | cons k ks ih =>
    have e : seenAll S f (k :: ks) w = seenIt S f k w ++ seenAll S f ks w := by simp [seenAll]
    have := seenIt_len S f k w
    rw [e, List.length_append, List.length_cons]
    omega
/-- each key's row ahead and its row behind -/
def bothAll (S : Nat) (f g : Gf) (ks : List (List Cell)) : List Item := ks.flatMap fun k => seenIt S f k (-1) ++ seenIt S g k 1
theorem bothAll_w (S : Nat) (f g : Gf) (ks : List (List Cell)) (r : List Cell) : wOf (bothAll S f g ks) r = wOf (seenAll S f ks (-1)) r + wOf (seenAll S g ks 1) r := by
  induction ks with
  | nil => simp [bothAll, seenAll, wOf]
  | cons k ks ih =>
    have e1 : bothAll S f g (k :: ks) = (seenIt S f k (-1) ++ seenIt S g k 1) ++ bothAll S f g ks := by simp [bothAll]
    have e2 : ∀ (f : Gf) (w : Int), seenAll S f (k :: ks) w = seenIt S f k w ++ seenAll S f ks w := fun f w => by simp [seenAll]
    rw [e1, e2, e2, wOf_append, wOf_append, wOf_append, wOf_append, ih]
    omega
theorem bothAll_snoc (S : Nat) (f g : Gf) (ks : List (List Cell)) (k : List Cell) : bothAll S f g (ks ++ [k]) = bothAll S f g ks ++ seenIt S f k (-1) ++ seenIt S g k 1 := by simp [bothAll]
theorem seenAll_snoc (S : Nat) (f : Gf) (ks : List (List Cell)) (k : List Cell) (w : Int) : seenAll S f (ks ++ [k]) w = seenAll S f ks w ++ seenIt S f k w := by simp [seenAll]
theorem bothAll_len (S : Nat) (f g : Gf) (ks : List (List Cell)) : (bothAll S f g ks).length ≤ ks.length * 2 := by
  induction ks with
  | nil => simp [bothAll]
  | cons k ks ih =>
    have e1 : bothAll S f g (k :: ks) = (seenIt S f k (-1) ++ seenIt S g k 1) ++ bothAll S f g ks := by simp [bothAll]
    have h1 := seenIt_len S f k (-1)
    have h2 := seenIt_len S g k 1
    rw [e1, List.length_append, List.length_append, List.length_cons]
    omega

/-! ### what Apply and Rows answer -/
/-- the Z-set of what changes from f to g -/
structure Delta (K S : Nat) (f g : Gf) (z : List Item) : Prop where
  ok : ZOk z
  wts : ∀ r, wOf z r = rowW K S g r - rowW K S f r
/-- the Z-set of the rows -/
structure RowsZ (K S : Nat) (f : Gf) (z : List Item) : Prop where
  ok : ZOk z
  wts : ∀ r, wOf z r = rowW K S f r
theorem Delta.unique {K S : Nat} {f g : Gf} {a b : List Item} (ha : Delta K S f g a) (hb : Delta K S f g b) : a = b := z_unique ha.ok hb.ok fun r => by rw [ha.wts, hb.wts]
theorem RowsZ.unique {K S : Nat} {f : Gf} {a b : List Item} (ha : RowsZ K S f a) (hb : RowsZ K S f b) : a = b := z_unique ha.ok hb.ok fun r => by rw [ha.wts, hb.wts]
theorem Delta.none_ (K S : Nat) (f : Gf) : Delta K S f f [] := ⟨⟨List.Pairwise.nil, by simp⟩, fun r => by simp [wOf]⟩
theorem RowsZ.none_ (K S : Nat) : RowsZ K S gZero [] := ⟨⟨List.Pairwise.nil, by simp⟩, fun r => by simp [wOf, rowW_zero]⟩
/-- the program's items make the Z-set of what changes -/
theorem both_delta {K S : Nat} {f g : Gf} {ks : List (List Cell)} (hn : ks.Nodup) (hk : ∀ k ∈ ks, k.length = K) (hs : ∀ k, k ∉ ks → ∀ i, g k i = f k i) :
    normErr (bothAll S f g ks) = 0 ∧ Delta K S f g (normOut (bothAll S f g ks)) := by
  have hw : ∀ r, wOf (bothAll S f g ks) r = rowW K S g r - rowW K S f r := by
    intro r
    rw [bothAll_w, seenAll_w hn hk, seenAll_w hn hk]
    split
    · omega
    · rename_i h
      have : rowW K S g r = rowW K S f r := by
        unfold rowW
        have e : ∀ i, g (r.take K) i = f (r.take K) i := hs _ h
        have e2 : rowOf S g (r.take K) = rowOf S f (r.take K) := by
          unfold rowOf numsOf
          rw [show g (r.take K) = f (r.take K) from funext e]
        rw [e 0, e2]
      omega
  have he : normErr (bothAll S f g ks) = 0 := normErr_zero.2 fun r => by
    rw [hw]
    rcases rowW_01 K S g r with h1 | h1 <;> rcases rowW_01 K S f r with h2 | h2 <;> rw [h1, h2] <;> decide
  obtain ⟨h1, h2⟩ := normOut_ok he
  exact ⟨he, h1, fun r => (h2 r).trans (hw r)⟩
/-- .. and so do the document's -/
theorem ref_delta {K S : Nat} {f g : Gf} {ks ms : List (List Cell)} (hn : ks.Nodup) (hk : ∀ k ∈ ks, k.length = K) (hs : ∀ k, f k 0 ≠ 0 → k ∈ ks) (hn2 : ms.Nodup) (hk2 : ∀ k ∈ ms, k.length = K) (hs2 : ∀ k, g k 0 ≠ 0 → k ∈ ms) :
    normErr (seenAll S f ks (-1) ++ seenAll S g ms 1) = 0 ∧ Delta K S f g (normOut (seenAll S f ks (-1) ++ seenAll S g ms 1)) := by
  have hw : ∀ r, wOf (seenAll S f ks (-1) ++ seenAll S g ms 1) r = rowW K S g r - rowW K S f r := by
    intro r
    rw [wOf_append, seenAll_rowW hn hk hs, seenAll_rowW hn2 hk2 hs2]
    omega
  have he : normErr (seenAll S f ks (-1) ++ seenAll S g ms 1) = 0 := normErr_zero.2 fun r => by
    rw [hw]
    rcases rowW_01 K S g r with h1 | h1 <;> rcases rowW_01 K S f r with h2 | h2 <;> rw [h1, h2] <;> decide
  obtain ⟨h1, h2⟩ := normOut_ok he
  exact ⟨he, h1, fun r => (h2 r).trans (hw r)⟩
theorem seen_rows {K S : Nat} {f : Gf} {ks : List (List Cell)} (hn : ks.Nodup) (hk : ∀ k ∈ ks, k.length = K) (hs : ∀ k, f k 0 ≠ 0 → k ∈ ks) :
    normErr (seenAll S f ks 1) = 0 ∧ RowsZ K S f (normOut (seenAll S f ks 1)) := by
  have hw : ∀ r, wOf (seenAll S f ks 1) r = rowW K S f r := fun r => by rw [seenAll_rowW hn hk hs, Int.one_mul]
  have he : normErr (seenAll S f ks 1) = 0 := normErr_zero.2 fun r => by
    rw [hw]
    rcases rowW_01 K S f r with h1 | h1 <;> rw [h1] <;> decide
  obtain ⟨h1, h2⟩ := normOut_ok he
  exact ⟨he, h1, fun r => (h2 r).trans (hw r)⟩

/-! ### what the statements want -/
theorem rows_add {K S : Nat} {f g : Gf} {a z b : List Item} (ha : RowsZ K S f a) (hz : Delta K S f g z) (hb : RowsZ K S g b) : addErr a z = 0 ∧ addOut a z = b := by
  obtain ⟨e1, e2⟩ := addErr_ok ha.ok hz.ok
  have hw : ∀ r, wOf (a ++ z) r = rowW K S g r := fun r => by rw [wOf_append, ha.wts, hz.wts]; omega
  obtain ⟨e3, e4⟩ := norm_unique (l := a ++ z) (z := b) (fun r => by
    rw [hw]
    rcases rowW_01 K S g r with h1 | h1 <;> rw [h1] <;> decide) hb.ok (fun r => by rw [hb.wts, hw])
  exact ⟨e1.trans e3, e2.trans e4⟩
theorem rows_one {K S : Nat} {f : Gf} {a : List Item} (ha : RowsZ K S f a) : ∀ x ∈ a, x.w = 1 := by
  intro x hx
  have h1 := wOf_mem ha.ok.1 hx
  rw [ha.wts] at h1
  have h2 := ha.ok.2 x hx
  rcases rowW_01 K S f x.row with h | h <;> omega
theorem rows_row {K S : Nat} {f : Gf} {a : List Item} (ha : RowsZ K S f a) : ∀ x ∈ a, x.row = rowOf S f (x.row.take K) := by
  intro x hx
  have h1 := wOf_mem ha.ok.1 hx
  rw [ha.wts] at h1
  have h2 := ha.ok.2 x hx
  unfold rowW at h1
  split at h1
  · rename_i h
    exact h.2
  · omega
/-- a chain of changes -/
theorem delta_chain {K S : Nat} {f g h : Gf} {x : List Item} {z : List Item} (hx : ∀ r, wOf x r = rowW K S g r - rowW K S f r) (hz : Delta K S g h z) : ∀ r, wOf (x ++ z) r = rowW K S h r - rowW K S f r := by
  intro r
  rw [wOf_append, hx, hz.wts]
  omega
theorem chain_norm {K S : Nat} {f g : Gf} {x : List Item} (hx : ∀ r, wOf x r = rowW K S g r - rowW K S f r) : normErr x = 0 ∧ Delta K S f g (normOut x) := by
  have he : normErr x = 0 := normErr_zero.2 fun r => by
    rw [hx]
    rcases rowW_01 K S g r with h1 | h1 <;> rcases rowW_01 K S f r with h2 | h2 <;> rw [h1, h2] <;> decide
  obtain ⟨h1, h2⟩ := normOut_ok he
  exact ⟨he, h1, fun r => (h2 r).trans (hx r)⟩
theorem delta_rows {K S : Nat} {g : Gf} {z : List Item} (h : Delta K S gZero g z) : RowsZ K S g z := ⟨h.ok, fun r => by rw [h.wts, rowW_zero]; omega⟩
theorem delta_same {K S : Nat} {g : Gf} {z : List Item} (h : Delta K S g g z) : z = [] := h.unique (Delta.none_ K S g)
end Go.Proofs.YtmfbblcipakaiaaGreatDoor
