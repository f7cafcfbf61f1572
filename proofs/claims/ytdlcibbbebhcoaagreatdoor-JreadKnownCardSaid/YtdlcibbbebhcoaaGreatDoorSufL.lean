/- What is left of a text is its end: plain laws. -/
import Derived.Test.YtdlcibbbebhcoaaGreatDoorMachL
import Derived.Lib.ParseIntBTie
/-! ### What is left of a text is its end: plain laws. -/
namespace Go.Proofs.YtdlcibbbebhcoaaGreatDoor

theorem hex1_suf {l r : List UInt8} {k : Nat} (h : hex1 l = .ok (k, r)) : r <:+ l := by
  cases l with
  | nil => cases h
  | cons c l =>
    simp only [hex1] at h
    split at h
    · cases h
    · injection h with h
      injection h with h1 h2
      subst h1 h2
      exact List.suffix_cons ..
theorem half4_suf {s : Bool} {l r : List UInt8} {k : Nat} (h : half4 s l = .ok (k, r)) : r <:+ l := by
  unfold half4 at h
  split at h
  · cases h
  rename_i a l1 h1
  split at h
  · cases h
  split at h
  · cases h
  rename_i b l2 h2
  split at h
  · cases h
  split at h
  · cases h
  rename_i c l3 h3
  split at h
  · cases h
  rename_i d l4 h4
  injection h with h
  injection h with e1 e2
  subst e1 e2
  exact (((hex1_suf h4).trans (hex1_suf h3)).trans (hex1_suf h2)).trans (hex1_suf h1)
theorem want1_suf {x : UInt8} {l r : List UInt8} (h : want1 x l = .ok r) : r <:+ l := by
  cases l with
  | nil => cases h
  | cons c l =>
    simp only [want1] at h
    split at h
    · injection h with h
      subst h
      exact List.suffix_cons ..
    · cases h
theorem escV_suf {l r t : List UInt8} (h : escV l = .ok (t, r)) : r <:+ l := by
  cases l with
  | nil => cases h
  | cons c l =>
    simp only [escV] at h
    split at h
    · injection h with h; injection h with _ h; subst h; exact List.suffix_cons ..
    split at h
    · injection h with h; injection h with _ h; subst h; exact List.suffix_cons ..
    split at h
    · cases h
    split at h
    · cases h
    rename_i n r1 h1
    have a1 := half4_suf h1
    split at h
    · split at h
      · cases h
      rename_i r2 h2
      have a2 := want1_suf h2
      split at h
      · cases h
      rename_i r3 h3
      have a3 := want1_suf h3
      split at h
      · cases h
      rename_i k r4 h4
      have a4 := half4_suf h4
      injection h with h; injection h with _ h; subst h
      exact (((a4.trans a3).trans a2).trans a1).trans (List.suffix_cons ..)
    · injection h with h; injection h with _ h; subst h
      exact a1.trans (List.suffix_cons ..)
theorem pieceV_suf {l r t : List UInt8} (h : pieceV l = .ok (t, r)) : r <:+ l := by
  cases l with
  | nil => cases h
  | cons c l =>
    simp only [pieceV] at h
    split at h
    · exact (escV_suf h).trans (List.suffix_cons ..)
    · simp only [plainV] at h
      split at h
      · cases h
      split at h
      · injection h with h; injection h with _ h; subst h
        exact List.drop_suffix ..
      · split at h <;> cases h
theorem unqB_suf : ∀ (f : Nat) (l r t : List UInt8), unqB f l = .ok (t, r) → r <:+ l
  | 0, _, _, _, h => by cases h
  | f + 1, [], _, _, h => by cases h
  | f + 1, c :: l, r, t, h => by
    simp only [unqB] at h
    split at h
    · injection h with h; injection h with _ h; subst h; exact List.suffix_cons ..
    split at h
    · cases h
    rename_i t1 r1 h1
    split at h
    · cases h
    rename_i u r2 h2
    have a1 := pieceV_suf h1
    have a2 := unqB_suf f r1 r2 u h2
    injection h with h; injection h with _ h; subst h
    exact a2.trans a1
theorem unqV_suf {l r t : List UInt8} (h : unqV l = .ok (t, r)) : r <:+ l := by
  cases l with
  | nil => cases h
  | cons c l =>
    simp only [unqV] at h
    split at h
    · cases h
    · exact (unqB_suf _ _ _ _ h).trans (List.suffix_cons ..)
/-! ### what is wrong has a number -/
theorem hex1_err {l : List UInt8} {c : Int} (h : hex1 l = .error c) : c = 3 ∨ c = 41 := by
  cases l with
  | nil => injection h with h; exact .inl h.symm
  | cons c l =>
    simp only [hex1] at h
    split at h
    · injection h with h; exact .inr h.symm
    · cases h
theorem half4_err {s : Bool} {l : List UInt8} {c : Int} (h : half4 s l = .error c) : c = 3 ∨ c = 41 := by
  unfold half4 at h
  split at h
  · rename_i h1
    injection h with h; subst h; exact hex1_err h1
  split at h
  · injection h with h; exact .inr h.symm
  split at h
  · rename_i h1
    injection h with h; subst h; exact hex1_err h1
  split at h
  · injection h with h; exact .inr h.symm
  split at h
  · rename_i h1
    injection h with h; subst h; exact hex1_err h1
  split at h
  · rename_i h1
    injection h with h; subst h; exact hex1_err h1
  · cases h
theorem want1_err {x : UInt8} {l : List UInt8} {c : Int} (h : want1 x l = .error c) : c = 3 ∨ c = 41 := by
  cases l with
  | nil => injection h with h; exact .inl h.symm
  | cons d l =>
    simp only [want1] at h
    split at h
    · cases h
    · injection h with h; exact .inr h.symm
theorem escV_err {l : List UInt8} {c : Int} (h : escV l = .error c) : c = 3 ∨ c = 41 := by
  cases l with
  | nil => injection h with h; exact .inl h.symm
  | cons d l =>
    simp only [escV] at h
    split at h
    · cases h
    split at h
    · cases h
    split at h
    · injection h with h; exact .inr h.symm
    split at h
    · rename_i h1
      injection h with h; subst h; exact half4_err h1
    split at h
    · split at h
      · rename_i h1
        injection h with h; subst h; exact want1_err h1
      split at h
      · rename_i h1
        injection h with h; subst h; exact want1_err h1
      split at h
      · rename_i h1
        injection h with h; subst h; exact half4_err h1
      · cases h
    · cases h
theorem pieceV_err {l : List UInt8} {c : Int} (h : pieceV l = .error c) : c = 3 ∨ c = 41 ∨ c = 40 := by
  cases l with
  | nil => injection h with h; exact .inl h.symm
  | cons d l =>
    simp only [pieceV] at h
    split at h
    · rcases escV_err h with h | h
      · exact .inl h
      · exact .inr (.inl h)
    · simp only [plainV] at h
      split at h
      · injection h with h; exact .inr (.inl h.symm)
      split at h
      · cases h
      split at h
      · injection h with h; exact .inl h.symm
      · injection h with h; exact .inr (.inr h.symm)
theorem unqB_err : ∀ (f : Nat) (l : List UInt8) (c : Int), unqB f l = .error c → c = 3 ∨ c = 41 ∨ c = 40
  | 0, _, _, h => by injection h with h; exact .inl h.symm
  | f + 1, [], _, h => by injection h with h; exact .inl h.symm
  | f + 1, d :: l, c, h => by
    simp only [unqB] at h
    split at h
    · cases h
    split at h
    · rename_i h1
      injection h with h; subst h; exact pieceV_err h1
    split at h
    · rename_i h1
      injection h with h; subst h; exact unqB_err f _ _ h1
    · cases h
theorem unqV_err {l : List UInt8} {c : Int} (h : unqV l = .error c) : c = 3 ∨ c = 41 ∨ c = 40 := by
  cases l with
  | nil => injection h with h; exact .inl h.symm
  | cons d l =>
    simp only [unqV] at h
    split at h
    · injection h with h; exact .inr (.inl h.symm)
    · exact unqB_err _ _ _ h
end Go.Proofs.YtdlcibbbebhcoaaGreatDoor

/-! ### The number of a text's digits, and what strconv.ParseInt makes of them: plain laws. -/
namespace Go.Proofs.YtdlcibbbebhcoaaGreatDoor

/-- digits, behind what was read -/
def decS (a : Nat) (d : UInt8) : Nat := 10 * a + (d.toNat - 48)
theorem decS_eq (a : Nat) (d : UInt8) : decS a d = 10 * a + (d.toNat - 48) := rfl
def decOn (a : Nat) (ds : List UInt8) : Nat := ds.foldl decS a
theorem decOn_nil (a : Nat) : decOn a [] = a := List.foldl_nil
theorem decOn_cons (d : UInt8) (ds : List UInt8) (a : Nat) : decOn a (d :: ds) = decOn (decS a d) ds := List.foldl_cons ..
theorem decOn_le (ds : List UInt8) : ∀ a : Nat, a ≤ decOn a ds := by
  induction ds with
  | nil => intro a; rw [decOn_nil]; exact Nat.le_refl _
  | cons d ds ih =>
    intro a
    have h := ih (decS a d)
    rw [decOn_cons]
    rw [decS_eq] at h ⊢
    exact Nat.le_trans (Nat.le_trans (Nat.le_mul_of_pos_left a (by decide)) (Nat.le_add_right _ _)) h
theorem decV_on (ds : List UInt8) : decV ds = decOn 0 ds := rfl
theorem uintM (ds : List UInt8) : ∀ (a : Nat), a ≤ 18446744073709551615 → (∀ d ∈ ds, isDig d = true) → Lib.parseUintM 18446744073709551615 a ds = if decOn a ds ≤ 18446744073709551615 then .ok (decOn a ds) else .range := by
  induction ds with
  | nil =>
    intro a ha _
    rw [decOn_nil, if_pos ha]
    rfl
  | cons d ds ih =>
    intro a ha hd
    have h1 := hd d (List.mem_cons_self ..)
    have hd2 : ∀ x ∈ ds, isDig x = true := fun x hx => hd x (List.mem_cons_of_mem _ hx)
    unfold isDig at h1
    simp only [Bool.and_eq_true, decide_eq_true_eq] at h1
    have hle := decOn_le ds (decS a d)
    rw [decOn_cons]
    have hS := decS_eq a d
    obtain ⟨S, hS2⟩ : ∃ S, decS a d = S := ⟨_, rfl⟩
    rw [hS2] at hle hS ⊢
    simp only [Lib.parseUintM]
    rw [if_pos h1]
    by_cases h2 : 1844674407370955162 ≤ a
    · rw [if_pos h2, if_neg (by omega)]
    rw [if_neg h2]
    by_cases h3 : 18446744073709551615 < a * 10 + (d.toNat - 48)
    · rw [if_pos h3, if_neg (by omega)]
    have e : a * 10 + (d.toNat - 48) = S := by omega
    rw [if_neg h3, e]
    exact ih _ (by omega) hd2
theorem uintB {ds : List UInt8} (h0 : ds ≠ []) (hd : ∀ d ∈ ds, isDig d = true) : Lib.parseUintB 64 ds = if decV ds ≤ 18446744073709551615 then .ok (decV ds) else .range := by
  unfold Lib.parseUintB
  rw [if_neg h0, decV_on]
  exact uintM ds 0 (by omega) hd
/-- does a number fit? -/
def fitsI (v : Int) : Prop := -9223372036854775808 ≤ v ∧ v ≤ 9223372036854775807
theorem intB {neg : Bool} {ds : List UInt8} (h0 : ds ≠ []) (hd : ∀ d ∈ ds, isDig d = true) : Lib.parseIntB 64 ((if neg then [45] else []) ++ ds) = if -9223372036854775808 ≤ signed neg (decV ds) ∧ signed neg (decV ds) ≤ 9223372036854775807 then .ok (signed neg (decV ds)) else .range := by
  cases neg with
  | true =>
    have e : (if true = true then [45] else ([] : List UInt8)) ++ ds = 45 :: ds := rfl
    rw [e, Lib.parseIntB_minus, uintB h0 hd]
    simp only [signed, if_true]
    by_cases h1 : decV ds ≤ 18446744073709551615
    · rw [if_pos h1]
      simp only [Lib.signedC]
      by_cases h2 : decV ds ≤ 9223372036854775808
      · rw [if_neg (by omega), if_pos (by omega)]
      · rw [if_pos (by omega), if_neg (by omega)]
    · rw [if_neg h1, if_neg (by omega)]
      rfl
  | false =>
    cases ds with
    | nil => exact absurd rfl h0
    | cons d ds =>
      have h1 := hd d (List.mem_cons_self ..)
      unfold isDig at h1
      simp only [Bool.and_eq_true, decide_eq_true_eq] at h1
      have e : (if false = true then [45] else ([] : List UInt8)) ++ (d :: ds) = d :: ds := rfl
      rw [e, Lib.parseIntB_plain 64 d ds (by omega) (by omega), uintB h0 hd]
      simp only [signed, Bool.false_eq_true, if_false]
      obtain ⟨X, hX⟩ : ∃ X, decV (d :: ds) = X := ⟨_, rfl⟩
      rw [hX]
      by_cases h1 : X ≤ 18446744073709551615
      · rw [if_pos h1]
        simp only [Lib.signlessC]
        by_cases h2 : X < 9223372036854775808
        · rw [if_neg (by omega), if_pos (by omega)]
        · rw [if_pos (by omega), if_neg (by omega)]
      · rw [if_neg h1, if_neg (by omega)]
        rfl
theorem digsOf_all : ∀ (l : List UInt8), ∀ d ∈ digsOf l, isDig d = true
  | [], d, h => by simp [digsOf] at h
  | c :: r, d, h => by
    simp only [digsOf] at h
    split at h
    · rename_i hc
      rcases List.mem_cons.1 h with rfl | h
      · exact hc
      · exact digsOf_all r d h
    · simp at h
theorem digs_split : ∀ (l : List UInt8), l = digsOf l ++ digsEnd l
  | [] => rfl
  | c :: r => by
    simp only [digsOf, digsEnd]
    split
    · rw [List.cons_append, ← digs_split r]
    · rfl
/-- the whole part: digits, and the rest -/
theorem whole_is {l ds r : List UInt8} (h : wholeV l = .ok (ds, r)) : l = ds ++ r ∧ ds ≠ [] ∧ ∀ d ∈ ds, isDig d = true := by
  unfold wholeV at h
  split at h
  · rename_i r1 h1
    injection h with h; injection h with ha hb; subst ha hb
    cases l with
    | nil => cases h1
    | cons c l =>
      simp only [opt1] at h1
      split at h1
      · rename_i hc
        injection h1 with _ h1
        subst hc h1
        exact ⟨rfl, by simp, by intro d hd; simp only [List.mem_singleton] at hd; subst hd; decide⟩
      · cases h1
  · unfold digs1 at h
    split at h
    · cases h
    · rename_i hne
      injection h with h; injection h with ha hb; subst ha hb
      exact ⟨digs_split l, hne, digsOf_all l⟩
theorem sign_is (l : List UInt8) : l = (if (opt1 45 l).1 then [45] else []) ++ (opt1 45 l).2 := by
  cases l with
  | nil => rfl
  | cons c r =>
    simp only [opt1]
    split
    · rename_i h
      rw [h]
      rfl
    · rfl
theorem frac_no {l r : List UInt8} (h : fracV l = .ok (false, r)) : r = l := by
  unfold fracV at h
  split at h
  · split at h
    · cases h
    · injection h with h; injection h with h; cases h
  · injection h with h; injection h with _ h; exact h.symm
theorem exp_no {l r : List UInt8} (h : expV l = .ok (false, r)) : r = l := by
  unfold expV at h
  split at h
  · split at h
    · cases h
    · injection h with h; injection h with h; cases h
  · injection h with h; injection h with _ h; exact h.symm
/-- a whole number's bytes -/
theorem num_is {l ds l2 l3 l4 : List UInt8} (h1 : wholeV (opt1 45 l).2 = .ok (ds, l2)) (h2 : fracV l2 = .ok (false, l3)) (h3 : expV l3 = .ok (false, l4)) :
    l = ((if (opt1 45 l).1 then [45] else []) ++ ds) ++ l4 ∧ Lib.parseIntB 64 ((if (opt1 45 l).1 then [45] else []) ++ ds) = if -9223372036854775808 ≤ signed (opt1 45 l).1 (decV ds) ∧ signed (opt1 45 l).1 (decV ds) ≤ 9223372036854775807 then .ok (signed (opt1 45 l).1 (decV ds)) else .range := by
  obtain ⟨a, b, c⟩ := whole_is h1
  have e := exp_no h3
  have f := frac_no h2
  refine ⟨?_, intB b c⟩
  rw [List.append_assoc, e, f, ← a]
  exact sign_is l
end Go.Proofs.YtdlcibbbebhcoaaGreatDoor

/-! ### The document's numbers, reckoned below 0: plain laws. No program is named here. -/
namespace Go.Proofs.YtdlcibbbebhcoaaGreatDoor

theorem rdec_take (ds : List UInt8) (k : Nat) (h : k < ds.length) : decV (ds.take (k + 1)) = 10 * decV (ds.take k) + (ds[k].toNat - 48) := by
  rw [List.take_succ_eq_append_getElem h]
  unfold decV
  rw [List.foldl_append]
  rfl
theorem rdec_more (l : List UInt8) : ∀ a : Nat, a ≤ l.foldl (fun n d => 10 * n + (d.toNat - 48)) a := by
  induction l with
  | nil => intro a; exact Nat.le_refl _
  | cons d l ih =>
    intro a
    rw [List.foldl_cons]
    exact Nat.le_trans (by omega) (ih _)
theorem rdec_le (ds : List UInt8) (k : Nat) : decV (ds.take k) ≤ decV ds := by
  have h : decV ds = (ds.drop k).foldl (fun n d => 10 * n + (d.toNat - 48)) (decV (ds.take k)) := by
    unfold decV
    rw [← List.foldl_append, List.take_append_drop]
  rw [h]
  exact rdec_more _ _
theorem rlim (d : Nat) (hd : d ≤ 9) : Int.tdiv (-9223372036854775808 + (d : Int)) 10 = -(((9223372036854775808 - d) / 10 : Nat) : Int) := by
  rw [show (-9223372036854775808 + (d : Int)) = -((9223372036854775808 - d : Nat) : Int) by omega, Int.neg_tdiv]
  rfl
/-- may a digit more be put to it? -/
def goesOn (n d : Nat) : Bool := decide (10 * n + d ≤ 9223372036854775808)
theorem rlim_iff (n d : Nat) (hd : d ≤ 9) : (-(n : Int) < Int.tdiv (-9223372036854775808 + (d : Int)) 10) ↔ goesOn n d = false := by
  rw [rlim d hd]
  unfold goesOn
  simp
  omega
end Go.Proofs.YtdlcibbbebhcoaaGreatDoor
