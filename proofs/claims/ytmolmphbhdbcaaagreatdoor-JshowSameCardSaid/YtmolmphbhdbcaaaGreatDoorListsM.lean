/- What stands behind changes nothing of what was read: plain laws. -/
import Derived.Test.YtmolmphbhdbcaaaGreatDoorMayL
import Derived.Test.YtmolmphbhdbcaaaGreatDoorJr3
import Derived.Test.YtmolmphbhdbcaaaGreatDoorMachL
import Derived.Lib.ItoaNum
import Derived.Test.YtmolmphbhdbcaaaGreatDoorObj
/-! ### What stands behind changes nothing of what was read: plain laws. -/
/-! ### What stands behind changes nothing of what was read: plain laws. -/
namespace Go.Proofs.YtmolmphbhdbcaaaGreatDoor
open Go.Lib (decodeN decodeL)

theorem hex1_loc {l r : List UInt8} {k : Nat} (h : hex1 l = .ok (k, r)) (t : List UInt8) : hex1 (l ++ t) = .ok (k, r ++ t) := by
  cases l with
  | nil => cases h
  | cons c l =>
    simp only [hex1, List.cons_append] at h ⊢
    split at h
    · cases h
    · rename_i k' hk
      injection h with h; injection h with h1 h2; subst h1 h2
      rfl
theorem want1_loc {x : UInt8} {l r : List UInt8} (h : want1 x l = .ok r) (t : List UInt8) : want1 x (l ++ t) = .ok (r ++ t) := by
  cases l with
  | nil => cases h
  | cons c l =>
    simp only [want1, List.cons_append] at h ⊢
    split at h
    · rename_i hc
      injection h with h; subst h
      rw [if_pos hc]
    · cases h
theorem half4_loc {s : Bool} {l r : List UInt8} {k : Nat} (h : half4 s l = .ok (k, r)) (t : List UInt8) : half4 s (l ++ t) = .ok (k, r ++ t) := by
  unfold half4 at h ⊢
  split at h
  · cases h
  rename_i a l1 h1
  rw [hex1_loc h1 t]
  simp only
  split at h
  · cases h
  rename_i c1
  rw [if_neg c1]
  split at h
  · cases h
  rename_i b l2 h2
  rw [hex1_loc h2 t]
  simp only
  split at h
  · cases h
  rename_i c2
  rw [if_neg c2]
  split at h
  · cases h
  rename_i c l3 h3
  rw [hex1_loc h3 t]
  simp only
  split at h
  · cases h
  rename_i d l4 h4
  rw [hex1_loc h4 t]
  injection h with h; injection h with e1 e2; subst e1 e2
  rfl
theorem wordV_loc : ∀ {x l r : List UInt8}, wordV x l = .ok r → ∀ t, wordV x (l ++ t) = .ok (r ++ t)
  | [], l, r, h, t => by simp only [wordV] at h ⊢; injection h with h; subst h; rfl
  | _ :: _, [], _, h, _ => by cases h
  | x :: xs, c :: l, r, h, t => by
    simp only [wordV, List.cons_append] at h ⊢
    split at h
    · rename_i hc
      rw [if_pos hc]
      exact wordV_loc h t
    · cases h
/-- a rune that is whole is that rune, whatever stands behind it -/
theorem dec_loc (l t : List UInt8) (hne : l ≠ []) (h : ¬ ((decodeL l).1 = 65533 ∧ (decodeL l).2 = 1)) : decodeL (l ++ t) = decodeL l := by
  rw [Lib.decodeL_N] at h
  rw [Lib.decodeL_N, Lib.decodeL_N]
  rcases Lib.decodeN_shape l.length (l.getD 0 0).toNat (l.getD 1 0).toNat (l.getD 2 0).toNat (l.getD 3 0).toNat with ⟨c, e⟩ | ⟨c1, c2, c3, cv, e⟩ | ⟨c1, c2, c3, c4, cv, cs, e⟩ | ⟨c1, c2, c3, c4, c5, cv, cw, e⟩ | e
  · rw [e]
    match l, hne with
    | a :: l, _ =>
      simp only [List.cons_append, List.getD_cons_zero] at c ⊢
      unfold decodeN
      rw [if_pos c]
  · rw [e]
    match l, c2 with
    | a :: b :: l, _ =>
      simp only [List.cons_append, List.getD_cons_zero, List.getD_cons_succ, List.length_cons] at c1 c3 cv ⊢
      unfold decodeN
      rw [if_neg (by omega), if_pos ⟨c1, by omega, c3⟩, if_pos cv]
  · rw [e]
    obtain ⟨a, b, d, l, rfl⟩ := three_of c2
    simp only [List.cons_append, List.getD_cons_zero, List.getD_cons_succ, List.length_cons] at c1 c3 c4 cv cs ⊢
    unfold decodeN
    rw [if_neg (by omega), if_neg (by omega), if_pos ⟨c1, ⟨by omega, c3⟩, by omega, c4⟩, if_pos ⟨cv, by omega⟩]
  · rw [e]
    obtain ⟨a, b, d, f, l, rfl⟩ := four_of c2
    simp only [List.cons_append, List.getD_cons_zero, List.getD_cons_succ, List.length_cons] at c1 c3 c4 c5 cv cw ⊢
    unfold decodeN
    rw [if_neg (by omega), if_neg (by omega), if_neg (by omega), if_pos ⟨c1, ⟨by omega, c3⟩, ⟨by omega, c4⟩, by omega, c5⟩, if_pos ⟨cv, by omega⟩]
  · rw [e] at h
    exact absurd ⟨rfl, rfl⟩ h
theorem runeN_loc (l t : List UInt8) (hne : l ≠ []) (h : runeN l ≠ 0) : runeN (l ++ t) = runeN l ∧ runeN l ≤ l.length := by
  have hr : ¬ Utf8.decode (bT l) 0 = (65533, 1) := by
    intro e
    apply h
    unfold runeN
    rw [if_pos e]
  have e1 : runeN l = (decodeL l).2 := by
    unfold runeN
    rw [if_neg hr]
    rfl
  have hb : ¬ ((decodeL l).1 = 65533 ∧ (decodeL l).2 = 1) := fun k => hr (show decodeL l = (65533, 1) from Prod.ext k.1 k.2)
  have e2 := dec_loc l t hne hb
  have e3 : runeN (l ++ t) = (decodeL (l ++ t)).2 := by
    unfold runeN
    rw [if_neg (by
      intro k
      apply hr
      have k2 : decodeL (l ++ t) = (65533, 1) := k
      rw [e2] at k2
      exact k2)]
    rfl
  exact ⟨by rw [e3, e2, e1], by rw [e1]; exact Lib.decodeL_le l hne⟩
theorem ok_tail {x u y r : List UInt8} (h : (Except.ok (x, y) : Except Int (List UInt8 × List UInt8)) = .ok (u, r)) (t : List UInt8) : (Except.ok (x, y ++ t) : Except Int (List UInt8 × List UInt8)) = .ok (u, r ++ t) := by
  injection h with h
  injection h with h1 h2
  rw [h1, h2]
theorem escV_loc {l r u : List UInt8} (h : escV l = .ok (u, r)) (t : List UInt8) : escV (l ++ t) = .ok (u, r ++ t) := by
  cases l with
  | nil => cases h
  | cons c l =>
    simp only [escV, List.cons_append] at h ⊢
    split at h
    · rename_i hc
      injection h with h; injection h with h1 h2; subst h1 h2
      rw [if_pos hc]
    rename_i hc
    rw [if_neg hc]
    split at h
    · exact ok_tail h t
    split at h
    · cases h
    rename_i hu
    rw [if_neg hu]
    split at h
    · cases h
    rename_i n r1 h1
    rw [half4_loc h1 t]
    simp only
    split at h
    · rename_i hh
      rw [if_pos hh]
      split at h
      · cases h
      rename_i r2 h2
      rw [want1_loc h2 t]
      simp only
      split at h
      · cases h
      rename_i r3 h3
      rw [want1_loc h3 t]
      simp only
      split at h
      · cases h
      rename_i k r4 h4
      rw [half4_loc h4 t]
      exact ok_tail h t
    · rename_i hh
      rw [if_neg hh]
      exact ok_tail h t
theorem pieceV_loc {l r u : List UInt8} (h : pieceV l = .ok (u, r)) (t : List UInt8) : pieceV (l ++ t) = .ok (u, r ++ t) := by
  cases l with
  | nil => cases h
  | cons c l =>
    simp only [pieceV, List.cons_append] at h ⊢
    split at h
    · rename_i hc
      rw [if_pos hc]
      exact escV_loc h t
    rename_i hc
    rw [if_neg hc]
    simp only [plainV] at h ⊢
    split at h
    · cases h
    rename_i h32
    rw [if_neg h32]
    split at h
    · rename_i hn
      injection h with h; injection h with h1 h2; subst h1 h2
      obtain ⟨e1, e2⟩ := runeN_loc (c :: l) t (by simp) hn
      rw [List.cons_append] at e1
      rw [e1, if_pos hn, ← List.cons_append, List.take_append_of_le_length e2, List.drop_append_of_le_length e2]
    · split at h <;> cases h
theorem unqB_loc : ∀ (f : Nat) (l r u : List UInt8), unqB f l = .ok (u, r) → ∀ t, unqB f (l ++ t) = .ok (u, r ++ t)
  | 0, _, _, _, h, _ => by cases h
  | f + 1, [], _, _, h, _ => by cases h
  | f + 1, c :: l, r, u, h, t => by
    simp only [unqB, List.cons_append] at h ⊢
    split at h
    · rename_i hc
      injection h with h; injection h with h1 h2; subst h1 h2
      rw [if_pos hc]
    rename_i hc
    rw [if_neg hc]
    split at h
    · cases h
    rename_i t1 r1 h1
    have h1' := pieceV_loc h1 t
    rw [List.cons_append] at h1'
    rw [h1']
    simp only
    split at h
    · cases h
    rename_i v r2 h2
    rw [unqB_loc f r1 r2 v h2 t]
    injection h with h; injection h with e1 e2; subst e1 e2
    rfl
theorem unqV_loc {l r u : List UInt8} (h : unqV l = .ok (u, r)) (t : List UInt8) : unqV (l ++ t) = .ok (u, r ++ t) := by
  cases l with
  | nil => cases h
  | cons c l =>
    simp only [unqV, List.cons_append] at h ⊢
    split at h
    · cases h
    rename_i hc
    rw [if_neg hc]
    have h1 := unqB_loc _ _ _ _ h t
    have h2 := unqB_more ((l ++ t).length + 1) (l.length + 1 + t.length) (l ++ t) (by omega) (by simp only [List.length_append]; omega)
    rw [h2]
    have mono : ∀ (f g : Nat) (x y v : List UInt8), unqB f x = .ok (v, y) → unqB (f + g) x = .ok (v, y) := by
      intro f
      induction f with
      | zero => intro g x y v hx; cases hx
      | succ f ih =>
        intro g x y v hx
        rw [show f + 1 + g = (f + g) + 1 by omega]
        cases x with
        | nil => cases hx
        | cons c x =>
          simp only [unqB] at hx ⊢
          split at hx
          · rename_i hc
            rw [if_pos hc]
            exact hx
          rename_i hc
          rw [if_neg hc]
          split at hx
          · cases hx
          rename_i t1 r1 h1
          split at hx
          · cases hx
          rename_i u2 r2 h2
          rw [ih g _ _ _ h2]
          exact hx
    exact mono _ _ _ _ _ h1
theorem litV_loc {l r u : List UInt8} (h : litV l = .ok (u, r)) (t : List UInt8) : litV (l ++ t) = .ok (u, r ++ t) := by
  cases l with
  | nil => cases h
  | cons c l =>
    simp only [litV, List.cons_append] at h ⊢
    split at h
    · cases h
    rename_i hc
    rw [if_neg hc]
    split at h
    · cases h
    · rename_i x hx
      injection h with h
      subst h
      have := unqV_loc hx t
      rw [List.cons_append] at this
      rw [this]
end Go.Proofs.YtmolmphbhdbcaaaGreatDoor

/-! ### The numeral of a number is read as the number: plain laws. -/
namespace Go.Proofs.YtmolmphbhdbcaaaGreatDoor
open Go.Lib (decDigits itoa)

theorem dig_toNat {k : Nat} (h : k < 10) : (UInt8.ofNat (48 + k)).toNat = 48 + k := by simp; omega
theorem dig_isDig {k : Nat} (h : k < 10) : isDig (UInt8.ofNat (48 + k)) = true := by
  unfold isDig
  rw [dig_toNat h]
  simp
  omega
theorem decV_snoc (l : List UInt8) (d : UInt8) : decV (l ++ [d]) = 10 * decV l + (d.toNat - 48) := by
  unfold decV
  rw [List.foldl_append]
  rfl
theorem dec_all (u : Nat) : ∀ d ∈ decDigits u, isDig d = true := by
  induction u using Nat.strongRecOn with
  | ind u ih =>
    intro d hd
    rw [Lib.decDigits] at hd
    split at hd
    · rename_i h
      simp only [List.mem_singleton] at hd
      subst hd
      exact dig_isDig h
    · rename_i h
      rcases List.mem_append.1 hd with hd | hd
      · exact ih (u / 10) (by omega) d hd
      · simp only [List.mem_singleton] at hd
        subst hd
        exact dig_isDig (Nat.mod_lt _ (by decide))
theorem dec_val (u : Nat) : decV (decDigits u) = u := by
  induction u using Nat.strongRecOn with
  | ind u ih =>
    rw [Lib.decDigits]
    split
    · rename_i h
      have e : decV [UInt8.ofNat (48 + u)] = 10 * 0 + ((UInt8.ofNat (48 + u)).toNat - 48) := rfl
      rw [e, dig_toNat h]
      omega
    · rename_i h
      rw [decV_snoc, ih (u / 10) (by omega), dig_toNat (Nat.mod_lt _ (by decide))]
      omega
/-- a numeral's first digit is no 0, but of 0 -/
theorem dec_head (u : Nat) : ∃ d r, decDigits u = d :: r ∧ isDig d = true ∧ (u ≠ 0 → d ≠ 48) ∧ (u = 0 → r = [] ∧ d = 48) := by
  induction u using Nat.strongRecOn with
  | ind u ih =>
    rw [Lib.decDigits]
    split
    · rename_i h
      refine ⟨_, _, rfl, dig_isDig h, fun h0 e => ?_, fun h0 => ⟨rfl, by subst h0; rfl⟩⟩
      have := congrArg UInt8.toNat e
      rw [dig_toNat h] at this
      have e48 : (48 : UInt8).toNat = 48 := rfl
      rw [e48] at this
      omega
    · rename_i h
      obtain ⟨d, r, e, h1, h2, _⟩ := ih (u / 10) (by omega)
      rw [e]
      exact ⟨d, r ++ [UInt8.ofNat (48 + u % 10)], rfl, h1, fun _ => h2 (by omega), fun h0 => by omega⟩
/-- behind the digits stands no digit -/
def Stops (r : List UInt8) : Prop := match r with | [] => True | c :: _ => isDig c = false
theorem digsOf_app : ∀ {D r : List UInt8}, (∀ d ∈ D, isDig d = true) → Stops r → digsOf (D ++ r) = D ∧ digsEnd (D ++ r) = r
  | [], [], _, _ => ⟨rfl, rfl⟩
  | [], c :: r, _, h => by
    have h : isDig c = false := h
    simp [digsOf, digsEnd, h]
  | d :: D, r, hD, h => by
    have hd := hD d (List.mem_cons_self ..)
    obtain ⟨e1, e2⟩ := digsOf_app (D := D) (r := r) (fun x hx => hD x (List.mem_cons_of_mem _ hx)) h
    simp only [List.cons_append, digsOf, digsEnd, hd, if_true, e1, e2]
    exact ⟨trivial, trivial⟩
/-- digits, the first of which is no 0 (or 0 alone), as a whole part -/
theorem whole_app {D r : List UInt8} (hD : ∀ d ∈ D, isDig d = true) (hr : Stops r) (h0 : D = [48] ∨ ∃ d D', D = d :: D' ∧ d ≠ 48) : wholeV (D ++ r) = .ok (D, r) := by
  rcases h0 with rfl | ⟨d, D', rfl, hd⟩
  · unfold wholeV
    rw [show opt1 48 ([48] ++ r) = (true, r) by simp [opt1]]
  · unfold wholeV
    rw [show opt1 48 (d :: D' ++ r) = (false, d :: D' ++ r) by simp [opt1, hd]]
    obtain ⟨e1, e2⟩ := digsOf_app hD hr
    unfold digs1
    simp only
    rw [e1, e2, if_neg (by simp)]
theorem digs1_app {D r : List UInt8} (hD : ∀ d ∈ D, isDig d = true) (hr : Stops r) (h0 : D ≠ []) : digs1 (D ++ r) = .ok (D, r) := by
  obtain ⟨e1, e2⟩ := digsOf_app hD hr
  unfold digs1
  rw [e1, e2, if_neg h0]
theorem opt1_dig {d : UInt8} {r : List UInt8} (h : isDig d = true) : opt1 45 (d :: r) = (false, d :: r) := by
  have h2 : d ≠ 45 := by
    rintro rfl
    exact absurd h (by decide)
  simp [opt1, h2]
/-- a sign, and digits -/
def signD (neg : Bool) (D : List UInt8) : List UInt8 := (if neg then [45] else []) ++ D
theorem sign_opt {neg : Bool} {D r : List UInt8} (hD : ∀ d ∈ D, isDig d = true) (h0 : D ≠ []) : opt1 45 (signD neg D ++ r) = (neg, D ++ r) := by
  cases neg with
  | true => simp [signD, opt1]
  | false =>
    cases D with
    | nil => exact absurd rfl h0
    | cons d D =>
      exact opt1_dig (hD d (List.mem_cons_self ..))
/-- what a text is that begins with a number -/
theorem parse_num {neg : Bool} {D r : List UInt8} (hD : ∀ d ∈ D, isDig d = true) (h0 : D ≠ []) (hl : (signD neg D ++ r).length ≤ 1048576) :
    parseV (signD neg D ++ r) = match numV (signD neg D ++ r) with
      | .error (p, e) => .error ((signD neg D ++ r).length - p.length, e)
      | .ok (n, q) => match skipB q with
        | [] => .ok (oneJ 4 n none_)
        | c :: p => .error ((signD neg D ++ r).length - (c :: p).length, 70) := by
  obtain ⟨c, t, hc, hb⟩ : ∃ c t, signD neg D ++ r = c :: t ∧ (isDig c = true ∨ c = 45) := by
    cases neg with
    | true => exact ⟨45, D ++ r, rfl, .inr rfl⟩
    | false =>
      cases D with
      | nil => exact absurd rfl h0
      | cons d D => exact ⟨d, D ++ r, rfl, .inl (hD d (List.mem_cons_self ..))⟩
  rw [hc] at hl ⊢
  have ne : ∀ k : UInt8, isDig k = false → k ≠ 45 → c ≠ k := by
    rintro k h1 h2 rfl
    rcases hb with hb | hb
    · rw [h1] at hb; cases hb
    · exact h2 hb
  have hsk : skipB (c :: t) = c :: t := by
    have h1 := ne 32 (by decide) (by decide)
    have h2 := ne 9 (by decide) (by decide)
    have h3 := ne 10 (by decide) (by decide)
    have h4 := ne 13 (by decide) (by decide)
    simp [skipB, isBlank, h1, h2, h3, h4]
  have hbeg : ¬ begB c = false := by
    unfold begB
    rcases hb with hb | hb
    · rw [hb]; simp
    · subst hb; decide
  have hleaf : leafV c (c :: t) = match numV (c :: t) with | .error b => .error b | .ok (n, q) => .ok (oneJ 4 n none_, q) := by
    unfold leafV
    rw [if_neg (ne 110 (by decide) (by decide)), if_neg (ne 102 (by decide) (by decide)), if_neg (ne 116 (by decide) (by decide)), if_neg (ne 34 (by decide) (by decide))]
    cases numV (c :: t) <;> rfl
  unfold parseV
  rw [if_neg (by omega), hsk]
  have hpv : pv (fuelOf (c :: t)) 0 0 (c :: t) = leafV c (c :: t) := by
    unfold fuelOf
    simp only [pv]
    rw [if_neg hbeg, if_neg (by decide), if_neg (by decide), if_neg (by
      rintro (h | h)
      · exact ne 91 (by decide) (by decide) h
      · exact ne 123 (by decide) (by decide) h)]
  rw [hpv, hleaf]
  cases numV (c :: t) with
  | error b => rfl
  | ok x =>
    obtain ⟨n, q⟩ := x
    simp only
    cases skipB q <;> rfl
/-- the numeral of a number -/
theorem itoa_sign (n : Int) : itoa n = signD (decide (n < 0)) (decDigits n.natAbs) := by
  unfold Lib.itoa signD
  by_cases h : n < 0
  · rw [if_pos h, decide_eq_true h]; rfl
  · rw [if_neg h, decide_eq_false h, show n.toNat = n.natAbs by omega]; rfl
theorem dec_form (u : Nat) : decDigits u = [48] ∨ ∃ d D', decDigits u = d :: D' ∧ d ≠ 48 := by
  obtain ⟨d, r, e, _, h2, h3⟩ := dec_head u
  by_cases h : u = 0
  · obtain ⟨h4, h5⟩ := h3 h
    rw [e, h4, h5]
    exact .inl rfl
  · exact .inr ⟨d, r, e, h2 h⟩
theorem dec_ne (u : Nat) : decDigits u ≠ [] := by
  obtain ⟨d, r, e, _⟩ := dec_head u
  rw [e]
  simp
theorem signed_dec (n : Int) : signed (decide (n < 0)) (decV (decDigits n.natAbs)) = n := by
  rw [dec_val]
  unfold signed
  by_cases h : n < 0
  · rw [decide_eq_true h, if_pos rfl]; omega
  · rw [decide_eq_false h, if_neg (by decide)]; omega
/-- a number's whole part is told -/
theorem num_whole {neg : Bool} {D r : List UInt8} (hD : ∀ d ∈ D, isDig d = true) (hr : Stops r) (h0 : D = [48] ∨ ∃ d D', D = d :: D' ∧ d ≠ 48) : numV (signD neg D ++ r) = match fracV r with
    | .error b => .error b
    | .ok (f, l3) => match expV l3 with
      | .error b => .error b
      | .ok (e, l4) =>
        if f = true ∨ e = true ∨ signed neg (decV D) < -9223372036854775808 ∨ 9223372036854775807 < signed neg (decV D) then .error (signD neg D ++ r, 73)
        else .ok (signed neg (decV D), l4) := by
  have hne : D ≠ [] := by
    rcases h0 with rfl | ⟨d, D', rfl, _⟩ <;> simp
  unfold numV
  rw [sign_opt hD hne]
  simp only
  rw [whole_app hD hr h0]
  simp only
  cases fracV r with
  | error b => rfl
  | ok x =>
    obtain ⟨f, l3⟩ := x
    simp only
    cases expV l3 with
    | error b => rfl
    | ok y => rfl
theorem frac_none {r : List UInt8} (h : ∀ t, r ≠ 46 :: t) : fracV r = .ok (false, r) := by
  unfold fracV
  cases r with
  | nil => rfl
  | cons c t =>
    have : c ≠ 46 := fun e => h t (by rw [e])
    simp [opt1, this]
theorem exp_none {r : List UInt8} (h : r = []) : expV r = .ok (false, r) := by
  subst h
  rfl
/-- digits are read as the number -/
theorem parse_itoa (n : Int) (h0 : -9223372036854775808 ≤ n) (h1 : n ≤ 9223372036854775807) (hl : (itoa n).length ≤ 1048576) : parseV (itoa n) = .ok (oneJ 4 n none_) := by
  rw [itoa_sign] at hl ⊢
  have e : signD (decide (n < 0)) (decDigits n.natAbs) = signD (decide (n < 0)) (decDigits n.natAbs) ++ [] := (List.append_nil _).symm
  rw [e] at hl ⊢
  rw [parse_num (dec_all _) (dec_ne _) hl, num_whole (dec_all _) (show Stops [] from trivial) (dec_form _)]
  simp only [fracV, opt1, expV, opt2]
  rw [signed_dec, if_neg (by simp; omega)]
  rfl
/-- digits too many -/
theorem parse_long {neg : Bool} {D : List UInt8} (hD : ∀ d ∈ D, isDig d = true) (h0 : ∃ d D', D = d :: D' ∧ d ≠ 48) (hv : 9223372036854775808 < decV D) (hl : (signD neg D).length ≤ 1048576) : parseV (signD neg D) = .error (0, 73) := by
  have hne : D ≠ [] := by
    obtain ⟨d, D', rfl, _⟩ := h0
    simp
  have e : signD neg D = signD neg D ++ [] := (List.append_nil _).symm
  rw [e] at hl ⊢
  rw [parse_num hD hne hl, num_whole hD (show Stops [] from trivial) (.inr h0)]
  simp only [fracV, opt1, expV, opt2]
  rw [if_pos (by
    cases neg
    · simp only [signed]; right; right; right; simp; omega
    · simp only [signed]; right; right; left; simp; omega)]
  simp
/-- a point, or an e, and digits: none that is whole -/
theorem parse_frac {neg : Bool} {D d : List UInt8} (hD : ∀ x ∈ D, isDig x = true) (h0 : D = [48] ∨ ∃ d D', D = d :: D' ∧ d ≠ 48) (hd : ∀ x ∈ d, isDig x = true) (hne : d ≠ []) : numV (signD neg D ++ (46 :: d)) = .error (signD neg D ++ (46 :: d), 73) := by
  rw [num_whole hD (show Stops (46 :: d) from (by decide : isDig 46 = false)) h0]
  have e : fracV (46 :: d) = .ok (true, []) := by
    unfold fracV
    rw [show opt1 46 (46 :: d) = (true, d) by simp [opt1]]
    have := digs1_app (r := []) hd (show Stops [] from trivial) hne
    rw [List.append_nil] at this
    simp only [this]
  rw [e]
  simp only [expV, opt2]
  rw [if_pos (by simp)]
theorem parse_exp {neg : Bool} {D d : List UInt8} {x : UInt8} {y : List UInt8} (hx : x = 101 ∨ x = 69) (hy : y = [] ∨ y = [43] ∨ y = [45]) (hD : ∀ x ∈ D, isDig x = true) (h0 : D = [48] ∨ ∃ d D', D = d :: D' ∧ d ≠ 48) (hd : ∀ x ∈ d, isDig x = true) (hne : d ≠ []) :
    numV (signD neg D ++ (x :: y ++ d)) = .error (signD neg D ++ (x :: y ++ d), 73) := by
  have hs : isDig x = false := by rcases hx with rfl | rfl <;> decide
  have h46 : x ≠ 46 := by rcases hx with rfl | rfl <;> decide
  rw [num_whole hD (show Stops (x :: y ++ d) from hs) h0]
  have e : fracV (x :: y ++ d) = .ok (false, x :: y ++ d) := frac_none (fun t h => h46 (by injection h))
  rw [e]
  simp only
  have e2 : expV (x :: y ++ d) = .ok (true, []) := by
    unfold expV
    rw [show opt2 101 69 (x :: y ++ d) = (true, y ++ d) by simp [opt2, hx]]
    simp only
    have e3 : (opt2 43 45 (y ++ d)).2 = d := by
      rcases hy with rfl | rfl | rfl
      · cases d with
        | nil => exact absurd rfl hne
        | cons c d =>
          have hc := hd c (List.mem_cons_self ..)
          have h1 : c ≠ 43 := by rintro rfl; exact absurd hc (by decide)
          have h2 : c ≠ 45 := by rintro rfl; exact absurd hc (by decide)
          simp [opt2, h1, h2]
      · simp [opt2]
      · simp [opt2]
    rw [e3]
    have := digs1_app (r := []) hd (show Stops [] from trivial) hne
    rw [List.append_nil] at this
    simp only [this]
  rw [e2]
  simp only
  rw [if_pos (by simp)]
theorem parse_exp_no {neg : Bool} {D : List UInt8} {y : List UInt8} (hy : y = [] ∨ y = [43]) (hD : ∀ x ∈ D, isDig x = true) (h0 : D = [48] ∨ ∃ d D', D = d :: D' ∧ d ≠ 48) : numV (signD neg D ++ (101 :: y)) = .error ([], 70) := by
  rw [num_whole hD (show Stops (101 :: y) from (by decide : isDig 101 = false)) h0]
  rw [frac_none (fun t h => by injection h with h; exact absurd h (by decide))]
  rcases hy with rfl | rfl <;> rfl
theorem parse_frac_no {neg : Bool} {D : List UInt8} (hD : ∀ x ∈ D, isDig x = true) (h0 : D = [48] ∨ ∃ d D', D = d :: D' ∧ d ≠ 48) : numV (signD neg D ++ [46, 93]) = .error ([93], 70) := by
  rw [num_whole hD (show Stops [46, 93] from (by decide : isDig 46 = false)) h0]
  rfl
end Go.Proofs.YtmolmphbhdbcaaaGreatDoor

/-! ### What stands behind a value changes nothing of it: numbers. Plain laws. -/
namespace Go.Proofs.YtmolmphbhdbcaaaGreatDoor

/-- what may stand right behind a number -/
def Free (t : List UInt8) : Prop := match t with | [] => True | c :: _ => isDig c = false ∧ c ≠ 46 ∧ c ≠ 101 ∧ c ≠ 69
theorem Free.stops {t : List UInt8} (h : Free t) : Stops t := by
  cases t with
  | nil => trivial
  | cons c t => exact h.1
theorem digs_loc {t : List UInt8} (ht : Stops t) : ∀ l : List UInt8, digsOf (l ++ t) = digsOf l ∧ digsEnd (l ++ t) = digsEnd l ++ t
  | [] => by
    cases t with
    | nil => exact ⟨rfl, rfl⟩
    | cons c t =>
      have h : isDig c = false := ht
      simp [digsOf, digsEnd, h]
  | c :: l => by
    obtain ⟨h1, h2⟩ := digs_loc ht l
    simp only [List.cons_append, digsOf, digsEnd]
    split
    · rw [h1, h2]; exact ⟨rfl, rfl⟩
    · exact ⟨rfl, rfl⟩
theorem digs1_loc {l d r t : List UInt8} (ht : Stops t) (h : digs1 l = .ok (d, r)) : digs1 (l ++ t) = .ok (d, r ++ t) := by
  obtain ⟨h1, h2⟩ := digs_loc ht l
  unfold digs1 at h ⊢
  rw [h1, h2]
  split at h
  · cases h
  · rename_i hd
    injection h with h; injection h with e1 e2; subst e1 e2
    rw [if_neg hd]
theorem opt1_loc {x : UInt8} {l t : List UInt8} (ht : l = [] → ∀ c r, t = c :: r → c ≠ x) : opt1 x (l ++ t) = ((opt1 x l).1, (opt1 x l).2 ++ t) := by
  cases l with
  | nil =>
    cases t with
    | nil => rfl
    | cons c t => simp [opt1, ht rfl c t rfl]
  | cons c l =>
    simp only [List.cons_append, opt1]
    split <;> rfl
theorem opt2_loc {x y : UInt8} {l t : List UInt8} (ht : l = [] → ∀ c r, t = c :: r → c ≠ x ∧ c ≠ y) : opt2 x y (l ++ t) = ((opt2 x y l).1, (opt2 x y l).2 ++ t) := by
  cases l with
  | nil =>
    cases t with
    | nil => rfl
    | cons c t =>
      obtain ⟨h1, h2⟩ := ht rfl c t rfl
      simp [opt2, h1, h2]
  | cons c l =>
    simp only [List.cons_append, opt2]
    split <;> rfl
theorem digs1_ne {l d r : List UInt8} (h : digs1 l = .ok (d, r)) : l ≠ [] := by
  rintro rfl
  cases h
theorem wholeV_loc {l d r t : List UInt8} (ht : Free t) (h : wholeV l = .ok (d, r)) : wholeV (l ++ t) = .ok (d, r ++ t) := by
  have hne : l ≠ [] := by
    rintro rfl
    cases h
  unfold wholeV at h ⊢
  rw [opt1_loc (fun e => absurd e hne)]
  cases ho : opt1 48 l with
  | mk b r1 =>
    rw [ho] at h
    cases b with
    | true =>
      simp only at h ⊢
      injection h with h; injection h with e1 e2; subst e1 e2
      rfl
    | false =>
      simp only at h ⊢
      exact digs1_loc ht.stops h
theorem fracV_loc {l r t : List UInt8} {f : Bool} (ht : Free t) (h : fracV l = .ok (f, r)) : fracV (l ++ t) = .ok (f, r ++ t) := by
  unfold fracV at h ⊢
  rw [opt1_loc (fun _ c q e => by subst e; exact ht.2.1)]
  cases ho : opt1 46 l with
  | mk b r1 =>
    rw [ho] at h
    cases b with
    | true =>
      simp only at h ⊢
      split at h
      · cases h
      · rename_i d r2 h1
        rw [digs1_loc ht.stops h1]
        injection h with h; injection h with e1 e2; subst e1 e2
        rfl
    | false =>
      simp only at h ⊢
      injection h with h; injection h with e1 e2; subst e1 e2
      rfl
theorem expV_loc {l r t : List UInt8} {f : Bool} (ht : Free t) (h : expV l = .ok (f, r)) : expV (l ++ t) = .ok (f, r ++ t) := by
  unfold expV at h ⊢
  rw [opt2_loc (fun _ c q e => by subst e; exact ⟨ht.2.2.1, ht.2.2.2⟩)]
  cases ho : opt2 101 69 l with
  | mk b r1 =>
    rw [ho] at h
    cases b with
    | true =>
      simp only at h ⊢
      split at h
      · cases h
      · rename_i d r2 h1
        have hne : r1 ≠ [] := by
          rintro rfl
          exact digs1_ne h1 rfl
        rw [opt2_loc (fun e => absurd e hne), digs1_loc ht.stops h1]
        injection h with h; injection h with e1 e2; subst e1 e2
        rfl
    | false =>
      simp only at h ⊢
      injection h with h; injection h with e1 e2; subst e1 e2
      rfl
theorem numV_loc {l r t : List UInt8} {n : Int} (ht : Free t) (h : numV l = .ok (n, r)) : numV (l ++ t) = .ok (n, r ++ t) := by
  have hne : l ≠ [] := by
    rintro rfl
    cases h
  unfold numV at h ⊢
  rw [opt1_loc (fun e => absurd e hne)]
  simp only
  split at h
  · cases h
  rename_i ds l2 h1
  rw [wholeV_loc ht h1]
  simp only
  split at h
  · cases h
  rename_i f l3 h2
  rw [fracV_loc ht h2]
  simp only
  split at h
  · cases h
  rename_i e l4 h3
  rw [expV_loc ht h3]
  simp only
  split at h
  · cases h
  · rename_i hc
    rw [if_neg hc]
    injection h with h; injection h with e1 e2; subst e1 e2
    rfl
theorem leafV_loc {c : UInt8} {l r t : List UInt8} {j : J} (ht : Free t) (h : leafV c l = .ok (j, r)) : leafV c (l ++ t) = .ok (j, r ++ t) := by
  unfold leafV at h ⊢
  split at h
  · rename_i h1
    rw [if_pos h1]
    split at h
    · cases h
    · rename_i hw
      rw [wordV_loc hw t]
      injection h with h; injection h with e1 e2; subst e1 e2
      rfl
  rename_i h1
  rw [if_neg h1]
  split at h
  · rename_i h2
    rw [if_pos h2]
    split at h
    · cases h
    · rename_i hw
      rw [wordV_loc hw t]
      injection h with h; injection h with e1 e2; subst e1 e2
      rfl
  rename_i h2
  rw [if_neg h2]
  split at h
  · rename_i h3
    rw [if_pos h3]
    split at h
    · cases h
    · rename_i hw
      rw [wordV_loc hw t]
      injection h with h; injection h with e1 e2; subst e1 e2
      rfl
  rename_i h3
  rw [if_neg h3]
  split at h
  · rename_i h4
    rw [if_pos h4]
    split at h
    · cases h
    · rename_i hw
      rw [litV_loc hw t]
      injection h with h; injection h with e1 e2; subst e1 e2
      rfl
  · rename_i h4
    rw [if_neg h4]
    split at h
    · cases h
    · rename_i hw
      rw [numV_loc ht hw]
      injection h with h; injection h with e1 e2; subst e1 e2
      rfl
end Go.Proofs.YtmolmphbhdbcaaaGreatDoor

/-! ### What stands behind a value changes nothing of it, nor what stood ahead: plain laws. -/
namespace Go.Proofs.YtmolmphbhdbcaaaGreatDoor

theorem skip_loc {t : List UInt8} : ∀ {l : List UInt8}, skipB l ≠ [] → skipB (l ++ t) = skipB l ++ t
  | [], h => absurd rfl h
  | c :: l, h => by
    simp only [skipB, List.cons_append] at h ⊢
    split
    · rename_i hb
      rw [if_pos hb] at h
      exact skip_loc h
    · rfl
theorem moreV_loc {obj b : Bool} {l r t : List UInt8} (h : moreV obj l = .ok (b, r)) : moreV obj (l ++ t) = .ok (b, r ++ t) := by
  unfold moreV at h ⊢
  cases hs : skipB l with
  | nil => rw [hs] at h; cases h
  | cons c q =>
    rw [hs] at h
    rw [skip_loc (by rw [hs]; simp), hs]
    simp only [List.cons_append] at h ⊢
    split at h
    · rename_i hc
      rw [if_pos hc]
      injection h with h; injection h with e1 e2; subst e1 e2
      rfl
    rename_i hc
    rw [if_neg hc]
    split at h
    · rename_i hc2
      rw [if_pos hc2]
      injection h with h; injection h with e1 e2; subst e1 e2
      rfl
    · cases h
theorem keyV_loc {obj : Bool} {had : List ByteArray} {l r t : List UInt8} {k : ByteArray} (h : keyV obj had l = .ok (k, r)) : keyV obj had (l ++ t) = .ok (k, r ++ t) := by
  cases obj with
  | false =>
    simp only [keyV, if_true] at h ⊢
    injection h with h; injection h with e1 e2; subst e1 e2
    rfl
  | true =>
    rw [keyM_eq] at h ⊢
    unfold keyM at h ⊢
    split at h
    · cases h
    rename_i s r1 h1
    have hne : skipB l ≠ [] := by
      intro e
      rw [e] at h1
      cases h1
    rw [skip_loc hne, litV_loc h1 t]
    simp only
    split at h
    · cases h
    rename_i hk
    rw [if_neg hk]
    split at h
    · cases h
    rename_i r2 hw
    have hne2 : skipB r1 ≠ [] := by
      intro e
      rw [e] at hw
      cases hw
    rw [skip_loc hne2, wordV_loc hw t]
    injection h with h; injection h with e1 e2; subst e1 e2
    rfl
theorem loc_both : ∀ f : Nat, (∀ (g n d n' d' : Nat) (l r t : List UInt8) (j : J), pv f n d l = .ok (j, r) → Free t → n' + j.flat.length ≤ 4000 → d' + j.deep ≤ 64 → pv (f + g) n' d' (l ++ t) = .ok (j, r ++ t)) ∧
    ∀ (g : Nat) (obj : Bool) (n d n' d' : Nat) (had : List ByteArray) (l r t : List UInt8) (js : List J), pp f obj n d had l = .ok (js, r) → Free t → n' + (J.flats js).length ≤ 4000 → d' + J.deeps js ≤ 64 → pp (f + g) obj n' d' had (l ++ t) = .ok (js, r ++ t)
  | 0 => by
    refine ⟨fun _ _ _ _ _ _ _ _ _ h => ?_, fun _ _ _ _ _ _ _ _ _ _ _ h => ?_⟩
    · simp only [pv] at h; cases h
    · simp only [pp] at h; cases h
  | f + 1 => by
    obtain ⟨ihv, ihp⟩ := loc_both f
    refine ⟨fun g n d n' d' l r t j h ht hn hd => ?_, fun g obj n d n' d' had l r t js h ht hn hd => ?_⟩
    · rw [show f + 1 + g = (f + g) + 1 by omega]
      cases l with
      | nil => simp only [pv] at h; cases h
      | cons c l =>
        have hp := flat_pos j
        have hq := deep_pos j
        simp only [pv, List.cons_append] at h ⊢
        split at h
        · cases h
        rename_i h1
        rw [if_neg h1, if_neg (by omega), if_neg (by omega)]
        split at h
        · cases h
        split at h
        · cases h
        split at h
        · rename_i h4
          rw [if_pos h4]
          split at h
          · rename_i r1 he
            injection h with h; injection h with e1 e2; subst e1 e2
            have hx := opt1_yes he
            have he2 : endV (c == 123) (l ++ t) = (true, r1 ++ t) := by
              unfold endV at he ⊢
              rw [skip_loc (by rw [hx]; simp), opt1_loc (fun e => by rw [hx] at e; cases e), he]
            rw [he2]
          · rename_i r1 he
            split at h
            · cases h
            rename_i js r2 hpp
            injection h with h; injection h with e1 e2; subst e1 e2
            have hx := opt1_no he
            have hne : skipB l ≠ [] := by
              intro e0
              rw [e0] at hx
              subst hx
              cases f with
              | zero => simp only [pp] at hpp; cases hpp
              | succ f =>
                cases hob : (c == 123)
                · rw [hob] at hpp
                  simp only [pp, keyV, if_true, skipB] at hpp
                  cases f <;> simp only [pv] at hpp <;> cases hpp
                · rw [hob] at hpp
                  simp only [pp, keyM_eq, keyM, skipB, litV] at hpp
                  cases hpp
            have he2 : endV (c == 123) (l ++ t) = (false, r1 ++ t) := by
              unfold endV at he ⊢
              rw [skip_loc hne, opt1_loc (fun e => absurd e hne), he]
            rw [he2]
            rw [flat_mk] at hn
            simp only [List.length_cons] at hn
            simp only [J.deep] at hd
            simp only
            rw [ihp g _ _ _ (n' + 1) (d' + 1) _ _ _ t _ hpp ht (by omega) (by omega)]
        · rename_i h4
          rw [if_neg h4]
          have := leafV_loc ht h
          rw [List.cons_append] at this
          exact this
    · rw [show f + 1 + g = (f + g) + 1 by omega]
      simp only [pp] at h ⊢
      split at h
      · cases h
      rename_i k l1 hk
      rw [keyV_loc hk]
      simp only
      split at h
      · cases h
      rename_i j l2 hv
      have hne : skipB l1 ≠ [] := by
        intro e
        rw [e] at hv
        cases f <;> simp only [pv] at hv <;> cases hv
      rw [skip_loc hne]
      split at h
      · cases h
      · rename_i l3 hm
        injection h with h; injection h with e1 e2; subst e1 e2
        rw [flats_one, rekey_len] at hn
        simp only [J.deeps, rk_deep] at hd
        rw [ihv g _ _ n' d' _ _ t _ hv ht hn (by omega)]
        simp only
        rw [moreV_loc hm]
      · rename_i l3 hm
        split at h
        · cases h
        rename_i js2 l4 hpp
        injection h with h; injection h with e1 e2; subst e1 e2
        rw [flats_cons, List.length_append, rekey_len] at hn
        simp only [J.deeps, rk_deep] at hd
        rw [ihv g _ _ n' d' _ _ t _ hv ht (by omega) (by omega)]
        simp only
        rw [moreV_loc hm]
        simp only
        rw [ihp g _ _ _ (n' + j.flat.length) d' _ _ _ t _ hpp ht (by omega) (by omega)]
end Go.Proofs.YtmolmphbhdbcaaaGreatDoor

/-! ### Texts of values with commas between them, in brackets: plain laws. -/
/-! ### Texts of values with commas between them, in brackets: plain laws. -/
namespace Go.Proofs.YtmolmphbhdbcaaaGreatDoor

theorem skip_all {r t : List UInt8} (h : skipB r = []) : skipB (r ++ t) = skipB t := by
  induction r with
  | nil => rfl
  | cons c r ih =>
    simp only [skipB, List.cons_append] at h ⊢
    split
    · rename_i hb
      rw [if_pos hb] at h
      exact ih h
    · rename_i hb
      rw [if_neg hb] at h
      cases h
/-- a text that is a value, among others -/
theorem parse_in {l t : List UInt8} {j : J} {n d g : Nat} (h : parseV l = .ok j) (ht : Free t) (hn : n + j.flat.length ≤ 4000) (hd : d + j.deep ≤ 64) :
    ∃ r, skipB r = [] ∧ skipB l ≠ [] ∧ pv (fuelOf l + g) n d (skipB l ++ t) = .ok (j, r ++ t) := by
  unfold parseV at h
  split at h
  · cases h
  split at h
  · cases h
  rename_i j' r hp
  split at h
  · rename_i hr
    injection h with h
    subst h
    refine ⟨r, hr, ?_, (loc_both _).1 g _ _ n d _ _ t _ hp ht hn hd⟩
    intro e
    rw [e] at hp
    unfold fuelOf at hp
    simp only [pv] at hp
    cases hp
  · cases h
/-- texts with commas between them, and what stands behind them -/
def joinL (e : List UInt8) : List (List UInt8) → List UInt8
  | [] => e
  | [l] => l ++ e
  | l :: m :: ls => l ++ 44 :: joinL e (m :: ls)
theorem pp_join (t0 : List UInt8) : ∀ (ps : List (List UInt8 × J)), ps ≠ [] → (∀ p ∈ ps, parseV p.1 = .ok p.2) → ∀ f n d : Nat, 2 * (joinL [93] (ps.map (·.1))).length + 1 ≤ f → n + (J.flats (ps.map (·.2))).length ≤ 4000 → d + J.deeps (ps.map (·.2)) ≤ 64 →
    pp f false n d [] (joinL (93 :: t0) (ps.map (·.1))) = .ok (ps.map fun p => p.2.rekey none_, t0)
  | [], h, _, _, _, _, _, _, _ => absurd rfl h
  | [p], _, hp, f, n, d, hf, hn, hd => by
    simp only [List.map_cons, List.map_nil, joinL] at hf ⊢
    simp only [List.map_cons, List.map_nil, flats_one] at hn
    simp only [List.map_cons, List.map_nil, J.deeps] at hd
    simp only [List.length_append, List.length_cons, List.length_nil] at hf
    obtain ⟨f, rfl⟩ : ∃ k, f = k + 1 := ⟨f - 1, by omega⟩
    obtain ⟨r, h1, h2, h3⟩ := parse_in (t := 93 :: t0) (n := n) (d := d) (g := f - fuelOf p.1) (hp p (List.mem_cons_self ..)) ⟨by decide, by decide, by decide, by decide⟩ hn (by omega)
    rw [show fuelOf p.1 + (f - fuelOf p.1) = f by unfold fuelOf; omega] at h3
    simp only [pp, keyV]
    rw [if_pos trivial]
    simp only
    rw [skip_loc h2, h3]
    simp only
    have hm : moreV false (r ++ 93 :: t0) = .ok (false, t0) := by
      unfold moreV
      rw [skip_all h1]
      rfl
    rw [hm]
  | p :: q :: ps, _, hp, f, n, d, hf, hn, hd => by
    have ih := pp_join t0 (q :: ps) (by simp) (fun x hx => hp x (List.mem_cons_of_mem _ hx))
    simp only [List.map_cons, joinL] at hf ih ⊢
    simp only [List.map_cons, flats_cons, List.length_append] at hn ih
    simp only [List.map_cons, J.deeps] at hd ih
    simp only [List.length_append, List.length_cons] at hf
    obtain ⟨f, rfl⟩ : ∃ k, f = k + 1 := ⟨f - 1, by omega⟩
    obtain ⟨r, h1, h2, h3⟩ := parse_in (t := 44 :: joinL (93 :: t0) (q.1 :: ps.map (·.1))) (n := n) (d := d) (g := f - fuelOf p.1) (hp p (List.mem_cons_self ..)) ⟨by decide, by decide, by decide, by decide⟩ (by omega) (by omega)
    rw [show fuelOf p.1 + (f - fuelOf p.1) = f by unfold fuelOf; omega] at h3
    simp only [pp, keyV]
    rw [if_pos trivial]
    simp only
    rw [skip_loc h2, h3]
    simp only
    have hm : moreV false (r ++ 44 :: joinL (93 :: t0) (q.1 :: ps.map (·.1))) = .ok (true, joinL (93 :: t0) (q.1 :: ps.map (·.1))) := by
      unfold moreV
      rw [skip_all h1]
      rfl
    rw [hm]
    simp only [hadOf, Bool.false_eq_true, if_false]
    rw [ih f (n + p.2.flat.length) d (by omega) (by omega) (by omega)]
/-! ### how many nodes a text may have, and how deep it may be -/
theorem endV_yes {obj : Bool} {l r : List UInt8} (h : endV obj l = (true, r)) : r.length + 1 ≤ l.length := by
  unfold endV at h
  have h1 := opt1_yes h
  have h2 := skipB_len l
  rw [h1] at h2
  simpa using h2
theorem size_both : ∀ f : Nat, (∀ (n d : Nat) (l r : List UInt8) (j : J), pv f n d l = .ok (j, r) → j.flat.length + r.length ≤ l.length ∧ 2 * j.deep + r.length ≤ l.length + 1) ∧
    ∀ (obj : Bool) (n d : Nat) (had : List ByteArray) (l r : List UInt8) (js : List J), pp f obj n d had l = .ok (js, r) → (J.flats js).length + r.length + 1 ≤ l.length ∧ 2 * J.deeps js + r.length ≤ l.length
  | 0 => by
    refine ⟨fun _ _ _ _ _ h => ?_, fun _ _ _ _ _ _ _ h => ?_⟩
    · simp only [pv] at h
      cases h
    · simp only [pp] at h
      cases h
  | f + 1 => by
    obtain ⟨ihv, ihp⟩ := size_both f
    refine ⟨fun n d l r j h => ?_, fun obj n d had l r js h => ?_⟩
    · cases l with
      | nil => simp only [pv] at h; cases h
      | cons c l =>
        simp only [pv] at h
        split at h
        · cases h
        split at h
        · cases h
        split at h
        · cases h
        split at h
        · split at h
          · rename_i r1 he
            injection h with h; injection h with h h'; subst h h'
            have := endV_yes he
            simp only [J.flat, J.flats, J.deep, J.deeps, List.length_cons, List.length_nil]
            omega
          · rename_i r1 he
            split at h
            · cases h
            rename_i js r2 hp
            injection h with h; injection h with h h'; subst h h'
            obtain ⟨p1, p2⟩ := ihp _ _ _ _ _ _ _ hp
            have := endV_len he
            rw [flat_mk]
            simp only [J.deep, List.length_cons]
            omega
        · have a := leafV_less h
          omega
    · simp only [pp] at h
      split at h
      · cases h
      rename_i k l1 hk
      split at h
      · cases h
      rename_i j l2 hv
      have a1 := ihv _ _ _ _ _ hv
      have a2 := keyV_len hk
      have a3 := skipB_len l1
      split at h
      · cases h
      · rename_i l3 hm
        have a4 := moreV_less hm
        injection h with h; injection h with h h'; subst h h'
        rw [flats_one, rekey_len]
        simp only [J.deeps, rk_deep]
        omega
      · rename_i l3 hm
        have a4 := moreV_less hm
        split at h
        · cases h
        rename_i js2 l4 hp
        injection h with h; injection h with h h'; subst h h'
        have a5 := ihp _ _ _ _ _ _ _ hp
        rw [flats_cons, List.length_append, rekey_len]
        simp only [J.deeps, rk_deep]
        omega
theorem parseV_size {l : List UInt8} {j : J} (h : parseV l = .ok j) : j.flat.length ≤ l.length ∧ 2 * j.deep ≤ l.length + 1 := by
  unfold parseV at h
  split at h
  · cases h
  split at h
  · cases h
  rename_i j' r hp
  have a := (size_both _).1 _ _ _ _ _ hp
  have b := skipB_len l
  split at h
  · injection h with h
    subst h
    omega
  · cases h

/-! ### objects -/
/-- a text that is a key and its colon -/
def KeyText (kt k : List UInt8) : Prop := ∀ (had : List ByteArray) (r : List UInt8), bT k ∉ had → keyV true had (kt ++ r) = .ok (bT k, r)
theorem bT_inj {a b : List UInt8} (h : bT a = bT b) : a = b := by
  have h1 := congrArg (fun x : ByteArray => x.data.toList) h
  simpa [bT] using h1
/-- a member: the text of its key, what that says, its value's text, and what that says -/
structure Mem where
  kt : List UInt8
  k : List UInt8
  l : List UInt8
  j : J
def Mem.key (p : Mem) : ByteArray := bT p.k
def Mem.piece (p : Mem) : List UInt8 := p.kt ++ p.l
structure Mem.Ok (p : Mem) : Prop where
  val : parseV p.l = .ok p.j
  key : KeyText p.kt p.k
theorem KeyText.ne {kt k : List UInt8} (h : KeyText kt k) (r : List UInt8) : ∃ x, skipB (kt ++ r) = 34 :: x := by
  have h1 := h [] r (by simp)
  unfold keyV at h1
  rw [if_neg (by decide)] at h1
  cases hs : skipB (kt ++ r) with
  | nil => rw [hs] at h1; cases h1
  | cons c x =>
    rw [hs] at h1
    unfold litV at h1
    simp only at h1
    by_cases hc : c = 34
    · exact ⟨x, by rw [hc]⟩
    · rw [if_pos hc] at h1; cases h1
theorem pp_joinM (t0 : List UInt8) : ∀ (ps : List Mem) (had : List ByteArray), ps ≠ [] → (∀ p ∈ ps, p.Ok ∧ p.key ∉ had) → (ps.map Mem.k).Nodup → ∀ f n d : Nat, 2 * (joinL [125] (ps.map Mem.piece)).length + 1 ≤ f → n + (J.flats (ps.map Mem.j)).length ≤ 4000 → d + J.deeps (ps.map Mem.j) ≤ 64 →
    pp f true n d had (joinL (125 :: t0) (ps.map Mem.piece)) = .ok (ps.map fun p => p.j.rekey p.key, t0)
  | [], _, h, _, _, _, _, _, _, _, _ => absurd rfl h
  | [p], had, _, hp, _, f, n, d, hf, hn, hd => by
    simp only [List.map_cons, List.map_nil, joinL] at hf ⊢
    simp only [List.map_cons, List.map_nil, flats_one] at hn
    simp only [List.map_cons, List.map_nil, J.deeps] at hd
    simp only [List.length_append, List.length_cons, List.length_nil, Mem.piece] at hf
    obtain ⟨f, rfl⟩ : ∃ k, f = k + 1 := ⟨f - 1, by omega⟩
    obtain ⟨⟨q1, q2⟩, q3⟩ := hp p (List.mem_cons_self ..)
    obtain ⟨r, h1, h2, h3⟩ := parse_in (t := 125 :: t0) (n := n) (d := d) (g := f - fuelOf p.l) q1 ⟨by decide, by decide, by decide, by decide⟩ hn (by omega)
    rw [show fuelOf p.l + (f - fuelOf p.l) = f by unfold fuelOf; omega] at h3
    simp only [pp]
    rw [show Mem.piece p ++ 125 :: t0 = p.kt ++ (p.l ++ 125 :: t0) by unfold Mem.piece; rw [List.append_assoc], q2 had _ q3]
    simp only
    rw [skip_loc h2, h3]
    simp only
    have hm : moreV true (r ++ 125 :: t0) = .ok (false, t0) := by
      unfold moreV
      rw [skip_all h1]
      rfl
    rw [hm]
    rfl
  | p :: q :: ps, had, _, hp, hnd, f, n, d, hf, hn, hd => by
    obtain ⟨⟨q1, q2⟩, q3⟩ := hp p (List.mem_cons_self ..)
    have hnd2 := (List.nodup_cons.1 hnd)
    have ih := pp_joinM t0 (q :: ps) (had ++ [p.key]) (by simp) (fun x hx => ⟨(hp x (List.mem_cons_of_mem _ hx)).1, fun hm => by
      rcases List.mem_append.1 hm with hm | hm
      · exact (hp x (List.mem_cons_of_mem _ hx)).2 hm
      · have e := bT_inj (List.mem_singleton.1 hm)
        exact hnd2.1 (by rw [← e]; exact List.mem_map.2 ⟨x, hx, rfl⟩)⟩) hnd2.2
    simp only [List.map_cons, joinL] at hf ih ⊢
    simp only [List.map_cons, flats_cons, List.length_append] at hn ih
    simp only [List.map_cons, J.deeps] at hd ih
    simp only [List.length_append, List.length_cons] at hf
    have hpl : (Mem.piece p).length = p.kt.length + p.l.length := List.length_append
    rw [hpl] at hf
    obtain ⟨f, rfl⟩ : ∃ k, f = k + 1 := ⟨f - 1, by omega⟩
    obtain ⟨r, h1, h2, h3⟩ := parse_in (t := 44 :: joinL (125 :: t0) (Mem.piece q :: ps.map Mem.piece)) (n := n) (d := d) (g := f - fuelOf p.l) q1 ⟨by decide, by decide, by decide, by decide⟩ (by omega) (by omega)
    rw [show fuelOf p.l + (f - fuelOf p.l) = f by unfold fuelOf; omega] at h3
    simp only [pp]
    rw [show Mem.piece p ++ 44 :: joinL (125 :: t0) (Mem.piece q :: ps.map Mem.piece) = p.kt ++ (p.l ++ 44 :: joinL (125 :: t0) (Mem.piece q :: ps.map Mem.piece)) by rw [show Mem.piece p = p.kt ++ p.l from rfl, List.append_assoc], q2 had _ q3]
    simp only
    rw [skip_loc h2, h3]
    simp only
    have hm : moreV true (r ++ 44 :: joinL (125 :: t0) (Mem.piece q :: ps.map Mem.piece)) = .ok (true, joinL (125 :: t0) (Mem.piece q :: ps.map Mem.piece)) := by
      unfold moreV
      rw [skip_all h1]
      rfl
    rw [hm]
    simp only [hadOf, if_true]
    rw [show had ++ [bT p.k] = had ++ [p.key] from rfl, ih f (n + p.j.flat.length) d (by omega) (by omega) (by omega)]
    rfl

/-! ### the whole texts -/
theorem pp_skip (f : Nat) (obj : Bool) (n d : Nat) (had : List ByteArray) (l : List UInt8) : pp (f + 1) obj n d had (skipB l) = pp (f + 1) obj n d had l := by
  cases obj with
  | false => simp only [pp, keyV, if_true, skipB_skip]
  | true =>
    have h : keyV true had (skipB l) = keyV true had l := by
      unfold keyV
      rw [if_neg (by decide), if_neg (by decide), skipB_skip]
    rw [pp, pp, h]
theorem begins {l : List UInt8} {j : J} (h : parseV l = .ok j) : ∃ c r, skipB l = c :: r ∧ begB c = true := by
  unfold parseV at h
  split at h
  · cases h
  split at h
  · cases h
  rename_i hp
  unfold fuelOf at hp
  cases hs : skipB l with
  | nil => rw [hs] at hp; simp only [pv] at hp; cases hp
  | cons c r =>
    refine ⟨c, r, rfl, ?_⟩
    rw [hs] at hp
    simp only [pv] at hp
    split at hp
    · cases hp
    rename_i hb
    simpa using hb
theorem join_skip {e : List UInt8} {l : List UInt8} {ls : List (List UInt8)} (h : skipB l ≠ []) : ∃ t, skipB (joinL e (l :: ls)) = skipB l ++ t := by
  cases ls with
  | nil => exact ⟨e, by rw [joinL, skip_loc h]⟩
  | cons m ls => exact ⟨_, by rw [joinL, skip_loc h]⟩
theorem pv_list (t0 : List UInt8) (ps : List (List UInt8 × J)) (hp : ∀ p ∈ ps, parseV p.1 = .ok p.2) (f n d : Nat) (hf : 2 * (joinL [93] (ps.map (·.1))).length + 2 ≤ f) (hn : n + 1 + (J.flats (ps.map (·.2))).length ≤ 4000) (hd : d + 1 + J.deeps (ps.map (·.2)) ≤ 64) :
    pv f n d (91 :: joinL (93 :: t0) (ps.map (·.1))) = .ok (.mk ⟨6, none_, 0, none_⟩ (ps.map fun p => p.2.rekey none_), t0) := by
  obtain ⟨f, rfl⟩ : ∃ k, f = k + 1 + 1 := ⟨f - 2, by omega⟩
  rw [pv]
  rw [if_neg (by decide), if_neg (by omega), if_neg (by omega), if_pos (.inl rfl), show ((91 : UInt8) == 123) = false from by decide]
  cases ps with
  | nil => rfl
  | cons p ps =>
    obtain ⟨c, r, h1, h2⟩ := begins (hp p (List.mem_cons_self ..))
    obtain ⟨t, h3⟩ := join_skip (e := 93 :: t0) (ls := ps.map (·.1)) (show skipB p.1 ≠ [] by rw [h1]; simp)
    have hc : c ≠ 93 := by rintro rfl; exact absurd h2 (by decide)
    have he : endV false (joinL (93 :: t0) ((p :: ps).map (·.1))) = (false, skipB (joinL (93 :: t0) ((p :: ps).map (·.1)))) := by
      unfold endV
      simp only [List.map_cons]
      rw [h3, h1]
      have hc2 : c ≠ lastOf false := hc
      simp only [List.cons_append, opt1]
      exact if_neg hc2
    rw [he]
    simp only
    rw [pp_skip, pp_join t0 (p :: ps) (by simp) hp _ (n + 1) (d + 1) (by omega) hn hd]
    rfl
theorem pv_obj (t0 : List UInt8) (ps : List Mem) (hp : ∀ p ∈ ps, p.Ok) (hk : (ps.map Mem.k).Nodup) (f n d : Nat) (hf : 2 * (joinL [125] (ps.map Mem.piece)).length + 2 ≤ f) (hn : n + 1 + (J.flats (ps.map Mem.j)).length ≤ 4000) (hd : d + 1 + J.deeps (ps.map Mem.j) ≤ 64) :
    pv f n d (123 :: joinL (125 :: t0) (ps.map Mem.piece)) = .ok (.mk ⟨7, none_, 0, none_⟩ (ps.map fun p => p.j.rekey p.key), t0) := by
  obtain ⟨f, rfl⟩ : ∃ k, f = k + 1 + 1 := ⟨f - 2, by omega⟩
  rw [pv]
  rw [if_neg (by decide), if_neg (by omega), if_neg (by omega), if_pos (.inr rfl), show ((123 : UInt8) == 123) = true from by decide]
  cases ps with
  | nil => rfl
  | cons p ps =>
    have he : endV true (joinL (125 :: t0) ((p :: ps).map Mem.piece)) = (false, skipB (joinL (125 :: t0) ((p :: ps).map Mem.piece))) := by
      obtain ⟨t, ht⟩ : ∃ t, joinL (125 :: t0) ((p :: ps).map Mem.piece) = p.kt ++ t := by
        cases ps with
        | nil => exact ⟨p.l ++ 125 :: t0, by simp [joinL, Mem.piece]⟩
        | cons q ps => exact ⟨p.l ++ 44 :: joinL (125 :: t0) ((q :: ps).map Mem.piece), by simp [joinL, Mem.piece]⟩
      obtain ⟨x, hx⟩ := (hp p (List.mem_cons_self ..)).key.ne t
      unfold endV
      rw [ht, hx]
      rfl
    rw [he]
    simp only
    rw [pp_skip, pp_joinM t0 (p :: ps) [] (by simp) (fun x hx => ⟨hp x hx, by simp⟩) hk _ (n + 1) (d + 1) (by omega) hn hd]
    rfl
theorem parse_of_pv {l : List UInt8} {j : J} (h : l.length ≤ 1048576) (hs : skipB l = l) (hp : pv (fuelOf l) 0 0 l = .ok (j, [])) : parseV l = .ok j := by
  unfold parseV
  rw [if_neg (by omega), hs, hp]
  rfl
theorem parse_list (ps : List (List UInt8 × J)) (hp : ∀ p ∈ ps, parseV p.1 = .ok p.2) (hl : (joinL [93] (ps.map (·.1))).length ≤ 1048575) (hn : 1 + (J.flats (ps.map (·.2))).length ≤ 4000) (hd : 1 + J.deeps (ps.map (·.2)) ≤ 64) :
    parseV (91 :: joinL [93] (ps.map (·.1))) = .ok (.mk ⟨6, none_, 0, none_⟩ (ps.map fun p => p.2.rekey none_)) :=
  parse_of_pv (by simp only [List.length_cons]; omega) rfl (pv_list [] ps hp _ 0 0 (by unfold fuelOf; simp only [List.length_cons]; omega) (by omega) (by omega))
theorem parse_obj (ps : List Mem) (hp : ∀ p ∈ ps, p.Ok) (hk : (ps.map Mem.k).Nodup) (hl : (joinL [125] (ps.map Mem.piece)).length ≤ 1048575) (hn : 1 + (J.flats (ps.map Mem.j)).length ≤ 4000) (hd : 1 + J.deeps (ps.map Mem.j) ≤ 64) :
    parseV (123 :: joinL [125] (ps.map Mem.piece)) = .ok (.mk ⟨7, none_, 0, none_⟩ (ps.map fun p => p.j.rekey p.key)) :=
  parse_of_pv (by simp only [List.length_cons]; omega) rfl (pv_obj [] ps hp hk _ 0 0 (by unfold fuelOf; simp only [List.length_cons]; omega) (by omega) (by omega))

/-! ### what was put together so far -/
/-- texts with commas between them -/
def accL (c : UInt8) : List (List UInt8) → List UInt8
  | [] => [c]
  | l :: ls => c :: l ++ (ls.flatMap fun m => 44 :: m)
theorem accL_snoc (c : UInt8) (ls : List (List UInt8)) (m : List UInt8) : accL c (ls ++ [m]) = (if ls = [] then accL c ls else accL c ls ++ [44]) ++ m := by
  cases ls with
  | nil => simp [accL]
  | cons l ls =>
    rw [if_neg (by simp)]
    simp [accL, List.flatMap_append]
theorem joinL_flat (e : List UInt8) : ∀ (l : List UInt8) (ls : List (List UInt8)), joinL e (l :: ls) = l ++ (ls.flatMap fun m => 44 :: m) ++ e
  | l, [] => by simp [joinL]
  | l, m :: ls => by
    rw [joinL, joinL_flat e m ls]
    simp
theorem accL_join (c : UInt8) (e : List UInt8) (ls : List (List UInt8)) : accL c ls ++ e = c :: joinL e ls := by
  cases ls with
  | nil => rfl
  | cons l ls =>
    rw [joinL_flat]
    simp [accL]
theorem accL_len (c : UInt8) (L : Nat) : ∀ {ls : List (List UInt8)}, (∀ l ∈ ls, l.length ≤ L) → (accL c ls).length ≤ 1 + ls.length * (L + 1) := by
  have h : ∀ {ls : List (List UInt8)}, (∀ l ∈ ls, l.length ≤ L) → (ls.flatMap fun m => 44 :: m).length ≤ ls.length * (L + 1) := by
    intro ls
    induction ls with
    | nil => intro _; simp
    | cons l ls ih =>
      intro h
      have h1 := h l (List.mem_cons_self ..)
      have h2 := ih fun x hx => h x (List.mem_cons_of_mem _ hx)
      simp only [List.flatMap_cons, List.length_append, List.length_cons, Nat.succ_mul] at h2 ⊢
      omega
  intro ls hs
  cases ls with
  | nil => simp [accL]
  | cons l ls =>
    have h1 := hs l (List.mem_cons_self ..)
    have h2 := h fun x hx => hs x (List.mem_cons_of_mem _ hx)
    simp only [accL, List.length_append, List.length_cons, Nat.succ_mul] at h2 ⊢
    omega
end Go.Proofs.YtmolmphbhdbcaaaGreatDoor

/-! ### Members put together, and read: plain laws; the keys of one letter. -/
namespace Go.Proofs.YtmolmphbhdbcaaaGreatDoor

theorem cat_list (a b : ByteArray) : (a ++ b).data.toList = a.data.toList ++ b.data.toList := by simp
def rowsM (ps : List Mem) : List (List Nd) := ps.map fun p => p.j.flat
def jsM (ps : List Mem) : List J := ps.map Mem.j
def keysM (ps : List Mem) : List ByteArray := ps.map Mem.key
def listM (ps : List Mem) : J := .mk ⟨6, none_, 0, none_⟩ (jsM ps)
def objM (ps : List Mem) : J := .mk ⟨7, none_, 0, none_⟩ (ps.map fun p => p.j.rekey p.key)
theorem mems_may {ps : List Mem} (h : ∀ p ∈ ps, parseV p.l = .ok p.j) : AllMay (rowsM ps) (jsM ps) := by
  refine ⟨by simp [rowsM, jsM], fun i hi hi' => ?_⟩
  simp only [rowsM, jsM, List.getElem_map]
  exact parseV_may (h _ (List.getElem_mem _))
theorem rekeys_map : ∀ (ps : List Mem), rekeys (keysM ps) (jsM ps) = ps.map fun p => p.j.rekey p.key
  | [] => rfl
  | p :: ps => by
    simp only [keysM, jsM, List.map_cons, rekeys]
    have := rekeys_map ps
    simp only [keysM, jsM] at this
    rw [this]
theorem rekeys_flats_len : ∀ (ps : List Mem), (J.flats (ps.map fun p => p.j.rekey p.key)).length = (J.flats (jsM ps)).length
  | [] => rfl
  | p :: ps => by
    have := rekeys_flats_len ps
    simp only [List.map_cons, flats_cons, jsM, List.length_append, rekey_len] at this ⊢
    omega
theorem rekeys_deeps_eq : ∀ (ps : List Mem), J.deeps (ps.map fun p => p.j.rekey p.key) = J.deeps (jsM ps)
  | [] => rfl
  | p :: ps => by
    have := rekeys_deeps_eq ps
    simp only [List.map_cons, jsM, J.deeps, rk_deep] at this ⊢
    rw [this]
theorem listM_len (ps : List Mem) : (listM ps).flat.length = (J.flats (jsM ps)).length + 1 := by rw [listM, flat_mk, List.length_cons]
theorem objM_len (ps : List Mem) : (objM ps).flat.length = (J.flats (jsM ps)).length + 1 := by rw [objM, flat_mk, List.length_cons, rekeys_flats_len]
theorem listM_deep (ps : List Mem) : (listM ps).deep = 1 + J.deeps (jsM ps) := by simp only [listM, J.deep]; omega
theorem objM_deep (ps : List Mem) : (objM ps).deep = 1 + J.deeps (jsM ps) := by simp only [objM, J.deep, rekeys_deeps_eq]; omega
theorem listM_say {ps : List Mem} (h : ∀ p ∈ ps, parseV p.l = .ok p.j) (hn : 1 + (J.flats (jsM ps)).length ≤ 4000) (hd : 1 + J.deeps (jsM ps) ≤ 64) : ListT (rowsM ps) (listM ps).flat 0 :=
  .inr ⟨jsM ps, mems_may h, .inr (.inr ⟨by omega, by omega, rfl, rfl⟩)⟩
theorem objM_say {ps : List Mem} (h : ∀ p ∈ ps, p.Ok) (hk : (ps.map Mem.k).Nodup) (hv : ∀ p ∈ ps, vU p.key = true) (hn : 1 + (J.flats (jsM ps)).length ≤ 4000) (hd : 1 + J.deeps (jsM ps) ≤ 64) : ObjT (keysM ps) (rowsM ps) (objM ps).flat 0 := by
  have hkl : (keysM ps).length = (rowsM ps).length := by simp [keysM, rowsM]
  have hm := mems_may fun p hp => (h p hp).val
  refine .inr ⟨hkl, .inr ⟨fun j hj => ?_, jsM ps, hm, ?_⟩⟩
  · have hjk : j < (keysM ps).length := by rw [hkl]; exact hj
    have hjp : j < ps.length := by simpa [keysM] using hjk
    rw [objErr_chk hjk hj (by simp only [keysM, List.getElem_map]; exact hv _ (List.getElem_mem _)) (by
      rw [hasKey_not]
      intro hm
      obtain ⟨i, hi, e⟩ := List.mem_take_iff_getElem.1 hm
      simp only [keysM, List.getElem_map, Mem.key] at e
      have e2 := bT_inj e
      have hi2 : i < ps.length := by simp only [keysM, List.length_map] at hi; omega
      have := (List.getElem_inj (i := i) (j := j) (h₀ := by simpa using hi2) (h₁ := by simpa using hjp) hk).1 (by simpa using e2)
      omega)]
    exact allMay_chk hm j hj
  · rw [rekeys_map]
    exact .inr (.inr ⟨by rw [rekeys_flats_len]; omega, by rw [rekeys_deeps_eq]; omega, rfl, rfl⟩)
theorem keys_none {ps : List Mem} (h : ∀ p ∈ ps, parseV p.l = .ok p.j) : (ps.map fun p => p.j.rekey none_) = jsM ps :=
  List.map_congr_left fun p hp => rekey_same (allMay_keys (mems_may h) _ (List.mem_map.2 ⟨p, hp, rfl⟩))
theorem listM_parse {ps : List Mem} (h : ∀ p ∈ ps, parseV p.l = .ok p.j) (hl : (accL 91 (ps.map Mem.l)).length ≤ 1048575) (hn : 1 + (J.flats (jsM ps)).length ≤ 4000) (hd : 1 + J.deeps (jsM ps) ≤ 64) : parseV (accL 91 (ps.map Mem.l) ++ [93]) = .ok (listM ps) := by
  have h1 := accL_join 91 [93] (ps.map Mem.l)
  have h2 := congrArg List.length h1
  simp only [List.length_append, List.length_cons, List.length_nil] at h2
  have h3 := parse_list (ps.map fun p => (p.l, p.j)) (fun p hp => by
      obtain ⟨q, hq, rfl⟩ := List.mem_map.1 hp
      exact h q hq) (by rw [show (ps.map fun p => (p.l, p.j)).map (·.1) = ps.map Mem.l by simp [Function.comp_def]]; omega)
    (by rw [show (ps.map fun p => (p.l, p.j)).map (·.2) = jsM ps by simp [jsM, Function.comp_def]]; omega) (by rw [show (ps.map fun p => (p.l, p.j)).map (·.2) = jsM ps by simp [jsM, Function.comp_def]]; omega)
  rw [show (ps.map fun p => (p.l, p.j)).map (·.1) = ps.map Mem.l by simp [Function.comp_def]] at h3
  rw [h1, h3, listM, ← keys_none h]
  simp [Function.comp_def]
theorem objM_parse {ps : List Mem} (h : ∀ p ∈ ps, p.Ok) (hk : (ps.map Mem.k).Nodup) (hl : (accL 123 (ps.map Mem.piece)).length ≤ 1048575) (hn : 1 + (J.flats (jsM ps)).length ≤ 4000) (hd : 1 + J.deeps (jsM ps) ≤ 64) : parseV (accL 123 (ps.map Mem.piece) ++ [125]) = .ok (objM ps) := by
  have h1 := accL_join 123 [125] (ps.map Mem.piece)
  have h2 := congrArg List.length h1
  simp only [List.length_append, List.length_cons, List.length_nil] at h2
  rw [h1, parse_obj ps h hk (by omega) hn hd, objM]

/-! ### keys of one letter -/
def isKeyA (k : UInt8) : Prop := k = 97 ∨ k = 98 ∨ k = 99 ∨ k = 100 ∨ k = 101 ∨ k = 102
theorem key_a (k : UInt8) (hk : isKeyA k) : litV [34, k, 34] = .ok ([k], []) := by
  rcases hk with rfl | rfl | rfl | rfl | rfl | rfl <;> rfl
theorem keyText_a {k : UInt8} (hk : isKeyA k) : KeyText [34, k, 34, 58] [k] := by
  intro had r hh
  unfold keyV
  rw [if_neg (by decide), show skipB ([34, k, 34, 58] ++ r) = [34, k, 34] ++ 58 :: r from rfl, litV_loc (key_a k hk)]
  simp only [List.nil_append]
  rw [if_neg (by rw [hasKey_not.2 hh]; decide), show skipB (58 :: r) = 58 :: r from rfl]
  rfl
theorem vU_keyA {k : UInt8} (hk : isKeyA k) : vU (bT [k]) = true := litV_uok (key_a k hk)
/-- a member of few bytes, under a letter -/
def memA (k : UInt8) (l : List UInt8) (j : J) : Mem := ⟨[34, k, 34, 58], [k], l, j⟩
structure Mem.Few (p : Mem) : Prop where
  ok : p.Ok
  len : p.l.length ≤ 100
  plen : p.piece.length ≤ 104
  key : vU p.key = true
theorem memA_few {k : UInt8} {l : List UInt8} {j : J} (hk : isKeyA k) (h : parseV l = .ok j) (hl : l.length ≤ 100) : (memA k l j).Few where
  ok := ⟨h, keyText_a hk⟩
  len := hl
  plen := by simp only [Mem.piece, memA, List.length_append, List.length_cons, List.length_nil]; omega
  key := vU_keyA hk
theorem few_size : ∀ {ps : List Mem}, (∀ p ∈ ps, p.Few) → (J.flats (jsM ps)).length ≤ 100 * ps.length ∧ J.deeps (jsM ps) ≤ 50
  | [], _ => by simp [jsM, J.flats, J.deeps]
  | p :: ps, h => by
    have h1 := few_size (ps := ps) fun x hx => h x (List.mem_cons_of_mem _ hx)
    have h0 := h p (List.mem_cons_self ..)
    have h2 := parseV_size h0.ok.val
    have h3 := h0.len
    simp only [jsM, List.map_cons, flats_cons, J.deeps, List.length_append, List.length_cons] at h1 ⊢
    omega
/-- all that the law asks -/
theorem lists_say {ps : List Mem} (h6 : ps.length ≤ 6) (hk : (ps.map Mem.k).Nodup) (h : ∀ p ∈ ps, p.Few) : ∃ ja jb : J, ListT (rowsM ps) ja.flat 0 ∧ ObjT (keysM ps) (rowsM ps) jb.flat 0 ∧ parseV (accL 91 (ps.map Mem.l) ++ [93]) = .ok ja ∧ parseV (accL 123 (ps.map Mem.piece) ++ [125]) = .ok jb ∧ ja.flat.length ≤ 4000 ∧ jb.flat.length ≤ 4000 := by
  obtain ⟨z1, z2⟩ := few_size h
  have ho : ∀ p ∈ ps, p.Ok := fun p hp => (h p hp).ok
  have a1 := accL_len 91 100 (ls := ps.map Mem.l) (fun l hl => by
    obtain ⟨q, hq, rfl⟩ := List.mem_map.1 hl
    exact (h q hq).len)
  have a2 := accL_len 123 104 (ls := ps.map Mem.piece) (fun l hl => by
    obtain ⟨q, hq, rfl⟩ := List.mem_map.1 hl
    exact (h q hq).plen)
  rw [List.length_map] at a1 a2
  exact ⟨listM ps, objM ps, listM_say (fun p hp => (ho p hp).val) (by omega) (by omega), objM_say ho hk (fun p hp => (h p hp).key) (by omega) (by omega), listM_parse (fun p hp => (ho p hp).val) (by omega) (by omega) (by omega), objM_parse ho hk (by omega) (by omega) (by omega), by rw [listM_len]; omega, by rw [objM_len]; omega⟩
end Go.Proofs.YtmolmphbhdbcaaaGreatDoor
