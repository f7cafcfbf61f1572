/- Weights of rows in items, Z-sets, and the Z-set of items: plain laws. No program is named here. -/
import Derived.Test.YtmfbblcipakaiaaGreatDoorItems
namespace Go.Proofs.YtmfbblcipakaiaaGreatDoor

/-- the weight of a row in items -/
def wOf : List Item → List Cell → Int
  | [], _ => 0
  | x :: l, r => (if x.row = r then x.w else 0) + wOf l r
theorem wOf_append (l m : List Item) (r : List Cell) : wOf (l ++ m) r = wOf l r + wOf m r := by
  induction l with
  | nil => simp [wOf]
  | cons x l ih => simp only [List.cons_append, wOf, ih]; omega
theorem wOf_perm {l m : List Item} (h : l.Perm m) (r : List Cell) : wOf l r = wOf m r := by
  induction h with
  | nil => rfl
  | cons x _ ih => simp only [wOf, ih]
  | swap x y l => simp only [wOf]; omega
  | trans _ _ h1 h2 => exact h1.trans h2
theorem wOf_none {l : List Item} {r : List Cell} (h : ∀ x ∈ l, x.row ≠ r) : wOf l r = 0 := by
  induction l with
  | nil => rfl
  | cons x l ih => rw [wOf, if_neg (h x (by simp)), ih (fun y hy => h y (by simp [hy]))]; rfl
def fit (s : Int) : Prop := -9223372036854775808 ≤ s ∧ s < 9223372036854775808
instance (s : Int) : Decidable (fit s) := by unfold fit; exact inferInstance
theorem wOf_bd {l : List Item} {r : List Cell} (h : ∀ x ∈ l, fit x.w) : -(l.length * 9223372036854775808 : Int) ≤ wOf l r ∧ wOf l r ≤ l.length * 9223372036854775808 := by
  induction l with
  | nil => simp [wOf]
  | cons x l ih =>
    obtain ⟨h1, h2⟩ := ih (fun y hy => h y (by simp [hy]))
    obtain ⟨h3, h4⟩ := h x (by simp)
    simp only [wOf, List.length_cons]
    split <;> omega

/-! ### Z-sets -/
def Rising (z : List Item) : Prop := z.Pairwise fun x y => rowCmp x.row y.row < 0
def ZOk (z : List Item) : Prop := Rising z ∧ ∀ x ∈ z, x.w ≠ 0
theorem rowCmp_self (r : List Cell) : rowCmp r r = 0 := rowCmp_zero.2 rfl
theorem rowCmp_lt_ne {a b : List Cell} (h : rowCmp a b < 0) : a ≠ b := by rintro rfl; rw [rowCmp_self] at h; omega
theorem rowCmp_gt {a b : List Cell} : 0 < rowCmp a b ↔ rowCmp b a < 0 := by rw [rowCmp_swap a b]; omega
theorem rowCmp_le_lt {a b c : List Cell} (h : rowCmp a b ≤ 0) (k : rowCmp b c < 0) : rowCmp a c < 0 := by
  rcases Int.lt_or_eq_of_le h with h | h
  · exact rowCmp_trans h k
  · rw [rowCmp_zero.1 h]; exact k
theorem rowCmp_lt_le {a b c : List Cell} (h : rowCmp a b < 0) (k : rowCmp b c ≤ 0) : rowCmp a c < 0 := by
  rcases Int.lt_or_eq_of_le k with k | k
  · exact rowCmp_trans h k
  · rw [← rowCmp_zero.1 k]; exact h
theorem rowCmp_le_trans {a b c : List Cell} (h : rowCmp a b ≤ 0) (k : rowCmp b c ≤ 0) : rowCmp a c ≤ 0 := by
  rcases Int.lt_or_eq_of_le k with k | k
  · exact Int.le_of_lt (rowCmp_le_lt h k)
  · rw [← rowCmp_zero.1 k]; exact h

theorem rising_tail {x : Item} {z : List Item} (h : Rising (x :: z)) : Rising z := (List.pairwise_cons.1 h).2
theorem wOf_rising_head {x : Item} {z : List Item} (h : Rising (x :: z)) : wOf z x.row = 0 :=
  wOf_none fun y hy e => rowCmp_lt_ne ((List.pairwise_cons.1 h).1 y hy) e.symm
theorem wOf_mem {z : List Item} (h : Rising z) {x : Item} (hx : x ∈ z) : wOf z x.row = x.w := by
  induction z with
  | nil => simp at hx
  | cons y z ih =>
    rcases List.mem_cons.1 hx with rfl | hx
    · rw [wOf, if_pos rfl, wOf_rising_head h]; omega
    · rw [wOf, if_neg (rowCmp_lt_ne ((List.pairwise_cons.1 h).1 x hx)), ih (rising_tail h) hx]; omega
theorem wOf_ne {z : List Item} {r : List Cell} (h : wOf z r ≠ 0) : ∃ x ∈ z, x.row = r := by
  refine Classical.byContradiction fun hn => h (wOf_none fun x hx e => hn ⟨x, hx, e⟩)
theorem item_ext {x y : Item} (h : x.row = y.row) (k : x.w = y.w) : x = y := by cases x; cases y; simp_all
/-- a Z-set is known by its weights -/
theorem z_unique : ∀ {a b : List Item}, ZOk a → ZOk b → (∀ r, wOf a r = wOf b r) → a = b
  | [], [], _, _, _ => rfl
  | [], y :: b, _, hb, h => by
    have := h y.row
    rw [wOf_mem hb.1 (by simp)] at this
    exact absurd this.symm (hb.2 y (by simp))
  | x :: a, [], ha, _, h => by
    have := h x.row
    rw [wOf_mem ha.1 (by simp)] at this
    exact absurd this (ha.2 x (by simp))
  | x :: a, y :: b, ha, hb, h => by
    have hx : wOf (y :: b) x.row ≠ 0 := by rw [← h, wOf_mem ha.1 (by simp)]; exact ha.2 x (by simp)
    have hy : wOf (x :: a) y.row ≠ 0 := by rw [h, wOf_mem hb.1 (by simp)]; exact hb.2 y (by simp)
    have e : x.row = y.row := by
      obtain ⟨u, hu, e1⟩ := wOf_ne hx
      obtain ⟨v, hv, e2⟩ := wOf_ne hy
      rcases List.mem_cons.1 hu with rfl | hu
      · exact e1.symm
      · rcases List.mem_cons.1 hv with rfl | hv
        · exact e2
        · have k1 := (List.pairwise_cons.1 hb.1).1 u hu
          have k2 := (List.pairwise_cons.1 ha.1).1 v hv
          rw [e1] at k1
          rw [e2] at k2
          rw [rowCmp_swap] at k1
          omega
    have ew : x.w = y.w := by
      have := h x.row
      rw [wOf_mem ha.1 (by simp)] at this
      rw [this, e, wOf_mem hb.1 (by simp)]
    have exy := item_ext e ew
    subst exy
    rw [z_unique ⟨rising_tail ha.1, fun u hu => ha.2 u (by simp [hu])⟩ ⟨rising_tail hb.1, fun u hu => hb.2 u (by simp [hu])⟩ (fun r => by
      have := h r
      simp only [wOf] at this
      omega)]

/-- what Check tells -/
def zAt (z : List Item) (k : Nat) : Bool :=
  match z[k]? with
  | none => true
  | some x => (x.w != 0) && (match k with
    | 0 => true
    | j + 1 => match z[j]? with
      | none => true
      | some y => decide (rowCmp y.row x.row < 0))
def zokB (z : List Item) : Bool := (List.range z.length).all (zAt z)
def chk (z : List Item) : Int := if zokB z then 0 else 2
theorem rising_of_next : ∀ {z : List Item}, (∀ k, (h : k + 1 < z.length) → rowCmp z[k].row z[k + 1].row < 0) → Rising z
  | [], _ => List.Pairwise.nil
  | [x], _ => by simp [Rising]
  | x :: y :: z, h => by
    have ih : Rising (y :: z) := rising_of_next fun k hk => by
      have := h (k + 1) (by simpa using hk)
      simpa using this
    refine List.pairwise_cons.2 ⟨?_, ih⟩
    have h0 : rowCmp x.row y.row < 0 := by simpa using h 0 (by simp)
    intro u hu
    rcases List.mem_cons.1 hu with rfl | hu
    · exact h0
    · exact rowCmp_trans h0 ((List.pairwise_cons.1 ih).1 u hu)
theorem zokB_iff (z : List Item) : zokB z = true ↔ ZOk z := by
  unfold zokB ZOk
  rw [List.all_eq_true]
  constructor
  · intro h
    have h' : ∀ k, (hk : k < z.length) → zAt z k = true := fun k hk => h k (List.mem_range.2 hk)
    refine ⟨rising_of_next fun k hk => ?_, fun x hx => ?_⟩
    · have := h' (k + 1) hk
      simp only [zAt, List.getElem?_eq_getElem hk, List.getElem?_eq_getElem (show k < z.length by omega), Bool.and_eq_true, decide_eq_true_eq] at this
      exact this.2
    · obtain ⟨k, hk, rfl⟩ := List.getElem_of_mem hx
      have := h' k hk
      simp only [zAt, List.getElem?_eq_getElem hk, Bool.and_eq_true, bne_iff_ne] at this
      exact this.1
  · rintro ⟨h1, h2⟩ k hk
    have hk := List.mem_range.1 hk
    simp only [zAt, List.getElem?_eq_getElem hk, Bool.and_eq_true, bne_iff_ne]
    refine ⟨h2 _ (List.getElem_mem hk), ?_⟩
    cases k with
    | zero => rfl
    | succ j =>
      simp only [List.getElem?_eq_getElem (show j < z.length by omega), decide_eq_true_eq]
      exact (List.pairwise_iff_getElem.1 h1) j (j + 1) (by omega) hk (by omega)
theorem chk_ok {z : List Item} (h : ZOk z) : chk z = 0 := by rw [chk, if_pos ((zokB_iff z).2 h)]
theorem chk_zero {z : List Item} : chk z = 0 ↔ ZOk z := by
  constructor
  · intro h
    unfold chk at h
    split at h
    · exact (zokB_iff z).1 (by assumption)
    · omega
  · exact chk_ok
theorem chk_bad {z : List Item} {k : Nat} (hk : k < z.length) (h : zAt z k = false) : chk z = 2 := by
  have : zokB z = false := by
    unfold zokB
    rw [Bool.eq_false_iff]
    intro hh
    have := List.all_eq_true.1 hh k (List.mem_range.2 hk)
    rw [h] at this
    cases this
  rw [chk, this]
  rfl
theorem chk_all {z : List Item} (h : ∀ k : Nat, k < z.length → zAt z k = true) : chk z = 0 := by
  have : zokB z = true := List.all_eq_true.2 fun k hk => h k (List.mem_range.1 hk)
  rw [chk, this]
  rfl
theorem chk_or (z : List Item) : chk z = 0 ∨ chk z = 2 := by unfold chk; split <;> simp

/-! ### the Z-set of items -/
/-- how many of rising rows stand below a row -/
def lowAt (r : List Cell) : List (List Cell) → Nat
  | [] => 0
  | k :: ks => if rowCmp k r < 0 then lowAt r ks + 1 else 0
def insKey (r : List Cell) (ks : List (List Cell)) : List (List Cell) := if ks[lowAt r ks]? = some r then ks else ks.take (lowAt r ks) ++ r :: ks.drop (lowAt r ks)
def KRise (ks : List (List Cell)) : Prop := ks.Pairwise fun x y => rowCmp x y < 0
theorem lowAt_le (r : List Cell) (ks : List (List Cell)) : lowAt r ks ≤ ks.length := by
  induction ks with
  | nil => exact Nat.le_refl _
  | cons k ks ih => unfold lowAt; split <;> simp <;> omega
theorem lowAt_eq {r : List Cell} {ks : List (List Cell)} {i : Nat} (hi : i ≤ ks.length) (h : ∀ j : Nat, (hj : j < i) → (hj' : j < ks.length) → rowCmp ks[j] r < 0) (h2 : (h : i < ks.length) → ¬ rowCmp ks[i] r < 0) : lowAt r ks = i := by
  induction ks generalizing i with
  | nil => simp at hi; simp [lowAt, hi]
  | cons k ks ih =>
    unfold lowAt
    cases i with
    | zero => rw [if_neg (show ¬ rowCmp k r < 0 from h2 (by simp))]
    | succ i =>
      rw [if_pos (show rowCmp k r < 0 from h 0 (by omega) (by simp))]
      rw [ih (i := i) (by simpa using hi) (fun j hj hj' => h (j + 1) (by omega) (by simpa using hj')) (fun hh => h2 (by simpa using hh))]
theorem ins_cons (r k : List Cell) (ks : List (List Cell)) (h : rowCmp k r < 0) : insKey r (k :: ks) = k :: insKey r ks := by
  unfold insKey
  simp only [lowAt, if_pos h, List.getElem?_cons_succ, List.take_succ_cons, List.drop_succ_cons, List.cons_append]
  split <;> rfl
theorem ins_mem (r : List Cell) (ks : List (List Cell)) (x : List Cell) : x ∈ insKey r ks ↔ x = r ∨ x ∈ ks := by
  unfold insKey
  split
  · rename_i h
    have := List.mem_of_getElem? h
    constructor
    · exact Or.inr
    · rintro (rfl | h)
      · exact this
      · exact h
  · have e := List.take_append_drop (lowAt r ks) ks
    constructor
    · intro h
      rcases List.mem_append.1 h with h | h
      · exact .inr (List.mem_of_mem_take h)
      · rcases List.mem_cons.1 h with h | h
        · exact .inl h
        · exact .inr (List.mem_of_mem_drop h)
    · rintro (rfl | h)
      · simp
      · rw [← e] at h
        rcases List.mem_append.1 h with h | h
        · simp [h]
        · simp [h]
theorem ins_rise (r : List Cell) : ∀ {ks : List (List Cell)}, KRise ks → KRise (insKey r ks)
  | [], _ => by simp [insKey, KRise, lowAt]
  | k :: ks, h => by
    obtain ⟨h1, h2⟩ := List.pairwise_cons.1 h
    by_cases hl : rowCmp k r < 0
    · rw [ins_cons r k ks hl]
      refine List.pairwise_cons.2 ⟨fun x hx => ?_, ins_rise r h2⟩
      rcases (ins_mem r ks x).1 hx with rfl | hx
      · exact hl
      · exact h1 x hx
    · unfold insKey
      simp only [lowAt, if_neg hl, List.getElem?_cons_zero, List.take_zero, List.drop_zero, List.nil_append]
      split
      · exact h
      · rename_i hne
        have hne : k ≠ r := fun e => hne (by rw [e])
        have hrk : rowCmp r k < 0 := by
          have : rowCmp k r ≠ 0 := fun e => hne (rowCmp_zero.1 e)
          rw [rowCmp_swap]; omega
        refine List.pairwise_cons.2 ⟨fun x hx => ?_, h⟩
        rcases List.mem_cons.1 hx with rfl | hx
        · exact hrk
        · exact rowCmp_trans hrk (h1 x hx)
def keysIn (ks : List (List Cell)) (l : List Item) : List (List Cell) := l.foldl (fun ks x => insKey x.row ks) ks
def keysOf (l : List Item) : List (List Cell) := keysIn [] l
theorem keysIn_mem (l : List Item) : ∀ (ks : List (List Cell)) (r : List Cell), r ∈ keysIn ks l ↔ r ∈ ks ∨ ∃ x ∈ l, x.row = r := by
  induction l with
  | nil => simp [keysIn]
  | cons y l ih =>
    intro ks r
    have := ih (insKey y.row ks) r
    simp only [keysIn, List.foldl_cons] at *
    rw [this, ins_mem]
    constructor
    · rintro ((rfl | h) | ⟨x, hx, rfl⟩)
      · exact .inr ⟨y, by simp, rfl⟩
      · exact .inl h
      · exact .inr ⟨x, by simp [hx], rfl⟩
    · rintro (h | ⟨x, hx, rfl⟩)
      · exact .inl (.inr h)
      · rcases List.mem_cons.1 hx with rfl | hx
        · exact .inl (.inl rfl)
        · exact .inr ⟨x, hx, rfl⟩
theorem keysIn_rise (l : List Item) : ∀ {ks : List (List Cell)}, KRise ks → KRise (keysIn ks l) := by
  induction l with
  | nil => exact fun h => h
  | cons y l ih => intro ks h; exact ih (ins_rise y.row h)
theorem keysOf_rise (l : List Item) : KRise (keysOf l) := keysIn_rise l List.Pairwise.nil
theorem keysOf_mem (l : List Item) (r : List Cell) : r ∈ keysOf l ↔ ∃ x ∈ l, x.row = r := by rw [keysOf, keysIn_mem]; simp
theorem keysOf_snoc (l : List Item) (x : Item) : keysOf (l ++ [x]) = insKey x.row (keysOf l) := by simp [keysOf, keysIn]

def withW (l : List Item) (ks : List (List Cell)) : List Item := ks.map fun r => ⟨r, wOf l r⟩
def noZero (l : List Item) : List Item := l.filter fun x => x.w != 0
def allFit (l : List Item) : Bool := l.all fun x => decide (fit (wOf l x.row))
def normErr (l : List Item) : Int := if allFit l then 0 else 50
def normOut (l : List Item) : List Item := if allFit l then noZero (withW l (keysOf l)) else []

theorem allFit_iff (l : List Item) : allFit l = true ↔ ∀ r, fit (wOf l r) := by
  unfold allFit
  rw [List.all_eq_true]
  constructor
  · intro h r
    by_cases h0 : wOf l r = 0
    · rw [h0]; decide
    · obtain ⟨x, hx, rfl⟩ := wOf_ne h0
      exact of_decide_eq_true (h x hx)
  · exact fun h x _ => decide_eq_true (h _)
theorem normErr_zero {l : List Item} : normErr l = 0 ↔ ∀ r, fit (wOf l r) := by
  rw [← allFit_iff, normErr]
  split <;> simp_all
theorem normErr_or (l : List Item) : normErr l = 0 ∨ normErr l = 50 := by unfold normErr; split <;> simp
theorem normErr_bad {l : List Item} {r : List Cell} (h : ¬ fit (wOf l r)) : normErr l = 50 := by
  rcases normErr_or l with e | e
  · exact absurd (normErr_zero.1 e r) h
  · exact e
theorem normOut_bad {l : List Item} (h : normErr l ≠ 0) : normOut l = [] := by
  unfold normErr at h
  unfold normOut
  split <;> simp_all
theorem noZero_rising {z : List Item} (h : Rising z) : ZOk (noZero z) := by
  refine ⟨List.Pairwise.filter _ h, fun x hx => ?_⟩
  have := (List.mem_filter.1 hx).2
  simpa using this
theorem wOf_noZero (z : List Item) (r : List Cell) : wOf (noZero z) r = wOf z r := by
  induction z with
  | nil => rfl
  | cons x z ih =>
    unfold noZero at *
    rw [List.filter_cons]
    split
    · simp only [wOf, ih]
    · rename_i h
      have h0 : x.w = 0 := by simpa using h
      rw [ih, wOf, h0]
      split <;> simp
theorem withW_rising {ks : List (List Cell)} (l : List Item) (h : KRise ks) : Rising (withW l ks) := by
  unfold Rising withW
  rw [List.pairwise_map]
  exact h
theorem wOf_withW {ks : List (List Cell)} (l : List Item) (h : KRise ks) (r : List Cell) : wOf (withW l ks) r = if r ∈ ks then wOf l r else 0 := by
  split
  · rename_i hr
    exact wOf_mem (x := ⟨r, wOf l r⟩) (withW_rising l h) (List.mem_map.2 ⟨r, hr, rfl⟩)
  · rename_i hr
    refine wOf_none fun x hx e => hr ?_
    obtain ⟨k, hk, rfl⟩ := List.mem_map.1 hx
    exact e ▸ hk
theorem normOut_ok {l : List Item} (h : normErr l = 0) : ZOk (normOut l) ∧ ∀ r, wOf (normOut l) r = wOf l r := by
  have ha : allFit l = true := (allFit_iff l).2 (normErr_zero.1 h)
  rw [normOut, if_pos ha]
  refine ⟨noZero_rising (withW_rising l (keysOf_rise l)), fun r => ?_⟩
  rw [wOf_noZero, wOf_withW l (keysOf_rise l)]
  split
  · rfl
  · rename_i hr
    rw [keysOf_mem] at hr
    exact (wOf_none fun x hx e => hr ⟨x, hx, e⟩).symm
theorem normOut_zok (l : List Item) : ZOk (normOut l) := by
  by_cases h : normErr l = 0
  · exact (normOut_ok h).1
  · rw [normOut_bad h]; exact ⟨List.Pairwise.nil, by simp⟩
/-- the Z-set of items is known by the weights -/
theorem norm_unique {l z : List Item} (hf : ∀ r, fit (wOf l r)) (hz : ZOk z) (h : ∀ r, wOf z r = wOf l r) : normErr l = 0 ∧ normOut l = z := by
  have he := normErr_zero.2 hf
  obtain ⟨h1, h2⟩ := normOut_ok he
  exact ⟨he, z_unique h1 hz fun r => (h2 r).trans (h r).symm⟩
theorem norm_congr {l m : List Item} (h : ∀ r, wOf l r = wOf m r) : normErr l = normErr m ∧ normOut l = normOut m := by
  by_cases hf : ∀ r, fit (wOf l r)
  · have hm := normErr_zero.2 (fun r => h r ▸ hf r)
    obtain ⟨h1, h2⟩ := normOut_ok hm
    obtain ⟨h3, h4⟩ := norm_unique hf h1 (fun r => (h2 r).trans (h r).symm)
    exact ⟨h3.trans hm.symm, h4⟩
  · have e1 : normErr l ≠ 0 := fun e => hf (normErr_zero.1 e)
    have e2 : normErr m ≠ 0 := fun e => hf (fun r => h r ▸ normErr_zero.1 e r)
    rw [normOut_bad e1, normOut_bad e2]
    rcases normErr_or l with e | e
    · exact absurd e e1
    · rcases normErr_or m with f | f
      · exact absurd f e2
      · exact ⟨e.trans f.symm, rfl⟩

/-! ### sums and multiples -/
def addErr (a b : List Item) : Int := if chk a = 0 ∧ chk b = 0 then normErr (a ++ b) else 2
def addOut (a b : List Item) : List Item := if chk a = 0 ∧ chk b = 0 then normOut (a ++ b) else []
def timesW (k : Int) (a : List Item) : List Item := a.map fun x => ⟨x.row, k * x.w⟩
def allTimes (k : Int) (a : List Item) : Bool := a.all fun x => decide (fit (k * x.w))
def scaleErr (k : Int) (a : List Item) : Int := if chk a = 0 then (if allTimes k a then 0 else 50) else 2
def scaleOut (k : Int) (a : List Item) : List Item := if chk a = 0 then (if allTimes k a then noZero (timesW k a) else []) else []

theorem addErr_ok {a b : List Item} (ha : ZOk a) (hb : ZOk b) : addErr a b = normErr (a ++ b) ∧ addOut a b = normOut (a ++ b) := by
  unfold addErr addOut
  rw [if_pos ⟨chk_ok ha, chk_ok hb⟩, if_pos ⟨chk_ok ha, chk_ok hb⟩]
  exact ⟨rfl, rfl⟩
theorem addErr_bad {a b : List Item} (h : ¬ (chk a = 0 ∧ chk b = 0)) : addErr a b = 2 ∧ addOut a b = [] := by
  unfold addErr addOut
  rw [if_neg h, if_neg h]
  exact ⟨rfl, rfl⟩
theorem addOut_zok (a b : List Item) : ZOk (addOut a b) := by
  unfold addOut
  split
  · exact normOut_zok _
  · exact ⟨List.Pairwise.nil, by simp⟩
theorem timesW_rising {k : Int} {a : List Item} (h : Rising a) : Rising (timesW k a) := by
  unfold Rising timesW
  rw [List.pairwise_map]
  exact h
theorem wOf_times (k : Int) (a : List Item) (r : List Cell) : wOf (timesW k a) r = k * wOf a r := by
  induction a with
  | nil => simp [timesW, wOf]
  | cons x a ih =>
    simp only [timesW, List.map_cons, wOf] at *
    rw [ih, Int.mul_add]
    split <;> simp
theorem allTimes_iff {k : Int} {a : List Item} (h : Rising a) : allTimes k a = true ↔ ∀ r, fit (k * wOf a r) := by
  unfold allTimes
  rw [List.all_eq_true]
  constructor
  · intro hh r
    by_cases h0 : wOf a r = 0
    · rw [h0]; simp [fit]
    · obtain ⟨x, hx, rfl⟩ := wOf_ne h0
      rw [wOf_mem h hx]
      exact of_decide_eq_true (hh x hx)
  · intro hh x hx
    have := hh x.row
    rw [wOf_mem h hx] at this
    exact decide_eq_true this
theorem scaleErr_zero {k : Int} {a : List Item} (h : ZOk a) : scaleErr k a = 0 ↔ ∀ r, fit (k * wOf a r) := by
  rw [scaleErr, if_pos (chk_ok h), ← allTimes_iff h.1]
  split <;> simp_all
theorem scaleErr_or {k : Int} {a : List Item} (h : ZOk a) : scaleErr k a = 0 ∨ scaleErr k a = 50 := by
  rw [scaleErr, if_pos (chk_ok h)]
  split <;> simp
theorem scaleOut_ok {k : Int} {a : List Item} (h : scaleErr k a = 0) : ZOk (scaleOut k a) ∧ ∀ r, wOf (scaleOut k a) r = k * wOf a r := by
  unfold scaleErr at h
  split at h
  · rename_i hc
    split at h
    · rename_i ht
      rw [scaleOut, if_pos hc, if_pos ht]
      exact ⟨noZero_rising (timesW_rising (chk_zero.1 hc).1), fun r => by rw [wOf_noZero, wOf_times]⟩
    · omega
  · omega
theorem scaleOut_bad {k : Int} {a : List Item} (h : scaleErr k a ≠ 0) : scaleOut k a = [] := by
  unfold scaleErr at h
  unfold scaleOut
  split at h
  · rename_i hc
    rw [if_pos hc]
    split at h
    · omega
    · rename_i ht; rw [if_neg ht]
  · rename_i hc; rw [if_neg hc]
theorem scaleOut_zok (k : Int) (a : List Item) : ZOk (scaleOut k a) := by
  by_cases h : scaleErr k a = 0
  · exact (scaleOut_ok h).1
  · rw [scaleOut_bad h]; exact ⟨List.Pairwise.nil, by simp⟩

/-! ### the laws -/
theorem norm_again {l : List Item} (h : normErr l = 0) : normErr (normOut l) = 0 ∧ normOut (normOut l) = normOut l := by
  obtain ⟨h1, h2⟩ := normOut_ok h
  exact norm_unique (fun r => by rw [h2]; exact normErr_zero.1 h r) h1 (fun r => rfl)
theorem norm_both {x y : List Item} (hx : normErr x = 0) (hy : normErr y = 0) : addErr (normOut x) (normOut y) = normErr (x ++ y) ∧ addOut (normOut x) (normOut y) = normOut (x ++ y) := by
  obtain ⟨h1, h2⟩ := normOut_ok hx
  obtain ⟨h3, h4⟩ := normOut_ok hy
  obtain ⟨e1, e2⟩ := addErr_ok h1 h3
  obtain ⟨e3, e4⟩ := norm_congr (l := normOut x ++ normOut y) (m := x ++ y) (fun r => by rw [wOf_append, wOf_append, h2, h4])
  exact ⟨e1.trans e3, e2.trans e4⟩
theorem norm_turn (l : List Item) (k : Nat) : normErr l = normErr (l.drop k ++ l.take k) ∧ normOut l = normOut (l.drop k ++ l.take k) :=
  norm_congr fun r => by
    rw [wOf_append, Int.add_comm, ← wOf_append, List.take_append_drop]
theorem add_comm_ (a b : List Item) : addErr a b = addErr b a ∧ addOut a b = addOut b a := by
  unfold addErr addOut
  obtain ⟨e1, e2⟩ := norm_congr (l := a ++ b) (m := b ++ a) (fun r => by rw [wOf_append, wOf_append, Int.add_comm])
  rw [e1, e2]
  by_cases h : chk a = 0 ∧ chk b = 0
  · rw [if_pos h, if_pos h, if_pos h.symm, if_pos h.symm]; exact ⟨rfl, rfl⟩
  · have h' : ¬ (chk b = 0 ∧ chk a = 0) := fun k => h k.symm
    rw [if_neg h, if_neg h, if_neg h', if_neg h']; exact ⟨rfl, rfl⟩
theorem neg_none {x : List Item} (hx : ZOk x) (h : scaleErr (-1) x = 0) : addErr x (scaleOut (-1) x) = 0 ∧ addOut x (scaleOut (-1) x) = [] := by
  obtain ⟨h1, h2⟩ := scaleOut_ok h
  obtain ⟨e1, e2⟩ := addErr_ok hx h1
  have hw : ∀ r, wOf (x ++ scaleOut (-1) x) r = 0 := fun r => by rw [wOf_append, h2]; omega
  obtain ⟨e3, e4⟩ := norm_unique (l := x ++ scaleOut (-1) x) (z := []) (fun r => by rw [hw]; decide) ⟨List.Pairwise.nil, by simp⟩ (fun r => by rw [hw]; rfl)
  exact ⟨e1.trans e3, e2.trans e4⟩
theorem fit_mem {x : List Item} (hf : ∀ u ∈ x, fit u.w) (hx : Rising x) (r : List Cell) : fit (wOf x r) := by
  by_cases h0 : wOf x r = 0
  · rw [h0]; decide
  · obtain ⟨u, hu, rfl⟩ := wOf_ne h0
    rw [wOf_mem hx hu]
    exact hf u hu
theorem neg_back {x : List Item} (hx : ZOk x) (hf : ∀ u ∈ x, fit u.w) (h : scaleErr (-1) x = 0) : scaleErr (-1) (scaleOut (-1) x) = 0 ∧ scaleOut (-1) (scaleOut (-1) x) = x := by
  obtain ⟨h1, h2⟩ := scaleOut_ok h
  have e : scaleErr (-1) (scaleOut (-1) x) = 0 := (scaleErr_zero h1).2 fun r => by
    rw [h2, show (-1 : Int) * (-1 * wOf x r) = wOf x r by omega]
    exact fit_mem hf hx.1 r
  obtain ⟨h3, h4⟩ := scaleOut_ok e
  exact ⟨e, z_unique h3 hx fun r => by rw [h4, h2]; omega⟩
theorem add_assoc_ {x y z : List Item} (hx : ZOk x) (hy : ZOk y) (hz : ZOk z) (h1 : addErr x y = 0) (h2 : addErr y z = 0) : addErr (addOut x y) z = addErr x (addOut y z) ∧ addOut (addOut x y) z = addOut x (addOut y z) := by
  obtain ⟨a1, a2⟩ := addErr_ok hx hy
  obtain ⟨b1, b2⟩ := addErr_ok hy hz
  obtain ⟨_, w1⟩ := normOut_ok (a1.symm.trans h1)
  obtain ⟨_, w2⟩ := normOut_ok (b1.symm.trans h2)
  obtain ⟨c1, c2⟩ := addErr_ok (addOut_zok x y) hz
  obtain ⟨d1, d2⟩ := addErr_ok hx (addOut_zok y z)
  obtain ⟨e1, e2⟩ := norm_congr (l := addOut x y ++ z) (m := x ++ addOut y z) (fun r => by rw [wOf_append, wOf_append, a2, b2, w1, w2, wOf_append, wOf_append]; omega)
  exact ⟨c1.trans (e1.trans d1.symm), c2.trans (e2.trans d2.symm)⟩
theorem scale_scale {x : List Item} {k m : Int} (hx : ZOk x) (h1 : scaleErr k x = 0) (h2 : scaleErr m (scaleOut k x) = 0) : scaleErr (k * m) x = 0 ∧ scaleOut m (scaleOut k x) = scaleOut (k * m) x := by
  obtain ⟨a1, a2⟩ := scaleOut_ok h1
  obtain ⟨b1, b2⟩ := scaleOut_ok h2
  have ew : ∀ r, m * (k * wOf x r) = k * m * wOf x r := fun r => by rw [← Int.mul_assoc, Int.mul_comm m k]
  have e : scaleErr (k * m) x = 0 := (scaleErr_zero hx).2 fun r => by
    have := (scaleErr_zero a1).1 h2 r
    rw [a2, ew] at this
    exact this
  obtain ⟨c1, c2⟩ := scaleOut_ok e
  exact ⟨e, z_unique b1 c1 fun r => by rw [b2, a2, c2, ew]⟩
theorem scale_add {x : List Item} {k m : Int} (hx : ZOk x) (h1 : scaleErr k x = 0) (h2 : scaleErr m x = 0) : addErr (scaleOut k x) (scaleOut m x) = scaleErr (k + m) x ∧ addOut (scaleOut k x) (scaleOut m x) = scaleOut (k + m) x := by
  obtain ⟨a1, a2⟩ := scaleOut_ok h1
  obtain ⟨b1, b2⟩ := scaleOut_ok h2
  obtain ⟨c1, c2⟩ := addErr_ok a1 b1
  have hw : ∀ r, wOf (scaleOut k x ++ scaleOut m x) r = (k + m) * wOf x r := fun r => by rw [wOf_append, a2, b2, Int.add_mul]
  by_cases h : scaleErr (k + m) x = 0
  · obtain ⟨d1, d2⟩ := scaleOut_ok h
    obtain ⟨e1, e2⟩ := norm_unique (l := scaleOut k x ++ scaleOut m x) (fun r => by rw [hw]; exact (scaleErr_zero hx).1 h r) d1 (fun r => by rw [hw, d2])
    exact ⟨c1.trans (e1.trans h.symm), c2.trans e2⟩
  · have hn : normErr (scaleOut k x ++ scaleOut m x) ≠ 0 := fun e => h ((scaleErr_zero hx).2 fun r => by rw [← hw]; exact normErr_zero.1 e r)
    rw [c1, c2, normOut_bad hn, scaleOut_bad h]
    refine ⟨?_, rfl⟩
    rcases normErr_or (scaleOut k x ++ scaleOut m x) with e | e
    · exact absurd e hn
    · rcases scaleErr_or (k := k + m) hx with f | f
      · exact absurd f h
      · exact e.trans f.symm
theorem scale_one {x : List Item} (hx : ZOk x) (hf : ∀ u ∈ x, fit u.w) : scaleErr 1 x = 0 ∧ scaleOut 1 x = x := by
  have e : scaleErr 1 x = 0 := (scaleErr_zero hx).2 fun r => by rw [Int.one_mul]; exact fit_mem hf hx.1 r
  obtain ⟨c1, c2⟩ := scaleOut_ok e
  exact ⟨e, z_unique c1 hx fun r => by rw [c2, Int.one_mul]⟩
theorem normOut_fit (l : List Item) : ∀ u ∈ normOut l, fit u.w := by
  by_cases h : normErr l = 0
  · obtain ⟨h1, h2⟩ := normOut_ok h
    intro u hu
    rw [← wOf_mem h1.1 hu, h2]
    exact normErr_zero.1 h _
  · rw [normOut_bad h]; simp
theorem normOut_row {l : List Item} {u : Item} (hu : u ∈ normOut l) : ∃ x ∈ l, x.row = u.row := by
  by_cases h : normErr l = 0
  · obtain ⟨h1, h2⟩ := normOut_ok h
    refine wOf_ne ?_
    rw [← h2, wOf_mem h1.1 hu]
    exact h1.2 u hu
  · rw [normOut_bad h] at hu; simp at hu
theorem scaleOut_fit {k : Int} {a : List Item} : ∀ u ∈ scaleOut k a, fit u.w := by
  by_cases h : scaleErr k a = 0
  · obtain ⟨h1, h2⟩ := scaleOut_ok h
    have hz : ZOk a := by
      unfold scaleErr at h
      split at h
      · exact chk_zero.1 (by assumption)
      · omega
    intro u hu
    rw [← wOf_mem h1.1 hu, h2]
    exact (scaleErr_zero hz).1 h _
  · rw [scaleOut_bad h]; simp
end Go.Proofs.YtmfbblcipakaiaaGreatDoor

