/- The numeral of a number is read as the number: plain laws. -/
import Derived.Test.YtcddfpcapbdphaaDoorNumL
import Derived.Test.YtcddfpcapbdphaaDoorMachL
import Derived.Lib.ItoaNum
namespace Go.Proofs.YtcddfpcapbdphaaDoor
open Go.Lib (decDigits itoa)

theorem dig_toNat {k : Nat} (h : k < 10) : (UInt8.ofNat (48 + k)).toNat = 48 + k := by simp; omega
theorem dig_isDig {k : Nat} (h : k < 10) : isDig (UInt8.ofNat (48 + k)) = true := by
  unfold isDig
  rw [dig_toNat h]
  simp
  omega
theorem decV_snoc (l : List UInt8) (d : UInt8) : decV (l ++ [d]) = 10 * decV l + (d.toNat - 48) := by
  unfold decV
  rw [List.foldl_append]
  rfl
theorem dec_all (u : Nat) : ∀ d ∈ decDigits u, isDig d = true := by
  induction u using Nat.strongRecOn with
  | ind u ih =>
    intro d hd
    rw [Lib.decDigits] at hd
    split at hd
    · rename_i h
      simp only [List.mem_singleton] at hd
      subst hd
      exact dig_isDig h
    · rename_i h
      rcases List.mem_append.1 hd with hd | hd
      · exact ih (u / 10) (by omega) d hd
      · simp only [List.mem_singleton] at hd
        subst hd
        exact dig_isDig (Nat.mod_lt _ (by decide))
theorem dec_val (u : Nat) : decV (decDigits u) = u := by
  induction u using Nat.strongRecOn with
  | ind u ih =>
    rw [Lib.decDigits]
    split
    · rename_i h
      have e : decV [UInt8.ofNat (48 + u)] = 10 * 0 + ((UInt8.ofNat (48 + u)).toNat - 48) := rfl
      rw [e, dig_toNat h]
      omega
    · rename_i h
      rw [decV_snoc, ih (u / 10) (by omega), dig_toNat (Nat.mod_lt _ (by decide))]
      omega
/-- a numeral's first digit is no 0, but of 0 -/
theorem dec_head (u : Nat) : ∃ d r, decDigits u = d :: r ∧ isDig d = true ∧ (u ≠ 0 → d ≠ 48) ∧ (u = 0 → r = [] ∧ d = 48) := by
  induction u using Nat.strongRecOn with
  | ind u ih =>
    rw [Lib.decDigits]
    split
    · rename_i h
      refine ⟨_, _, rfl, dig_isDig h, fun h0 e => ?_, fun h0 => ⟨rfl, by subst h0; rfl⟩⟩
      have := congrArg UInt8.toNat e
      rw [dig_toNat h] at this
      have e48 : (48 : UInt8).toNat = 48 := rfl
      rw [e48] at this
      omega
    · rename_i h
      obtain ⟨d, r, e, h1, h2, _⟩ := ih (u / 10) (by omega)
      rw [e]
      exact ⟨d, r ++ [UInt8.ofNat (48 + u % 10)], rfl, h1, fun _ => h2 (by omega), fun h0 => by omega⟩
/-- behind the digits stands no digit -/
def Stops (r : List UInt8) : Prop := match r with | [] => True | c :: _ => isDig c = false
theorem digsOf_app : ∀ {D r : List UInt8}, (∀ d ∈ D, isDig d = true) → Stops r → digsOf (D ++ r) = D ∧ digsEnd (D ++ r) = r
  | [], [], _, _ => ⟨rfl, rfl⟩
  | [], c :: r, _, h => by
    have h : isDig c = false := h
    simp [digsOf, digsEnd, h]
  | d :: D, r, hD, h => by
    have hd := hD d (List.mem_cons_self ..)
    obtain ⟨e1, e2⟩ := digsOf_app (D := D) (r := r) (fun x hx => hD x (List.mem_cons_of_mem _ hx)) h
    simp only [List.cons_append, digsOf, digsEnd, hd, if_true, e1, e2]
    exact ⟨trivial, trivial⟩
/-- digits, the first of which is no 0 (or 0 alone), as a whole part -/
theorem whole_app {D r : List UInt8} (hD : ∀ d ∈ D, isDig d = true) (hr : Stops r) (h0 : D = [48] ∨ ∃ d D', D = d :: D' ∧ d ≠ 48) : wholeV (D ++ r) = .ok (D, r) := by
  rcases h0 with rfl | ⟨d, D', rfl, hd⟩
  · unfold wholeV
    rw [show opt1 48 ([48] ++ r) = (true, r) by simp [opt1]]
  · unfold wholeV
    rw [show opt1 48 (d :: D' ++ r) = (false, d :: D' ++ r) by simp [opt1, hd]]
    obtain ⟨e1, e2⟩ := digsOf_app hD hr
    unfold digs1
    simp only
    rw [e1, e2, if_neg (by simp)]
theorem digs1_app {D r : List UInt8} (hD : ∀ d ∈ D, isDig d = true) (hr : Stops r) (h0 : D ≠ []) : digs1 (D ++ r) = .ok (D, r) := by
  obtain ⟨e1, e2⟩ := digsOf_app hD hr
  unfold digs1
  rw [e1, e2, if_neg h0]
theorem opt1_dig {d : UInt8} {r : List UInt8} (h : isDig d = true) : opt1 45 (d :: r) = (false, d :: r) := by
  have h2 : d ≠ 45 := by
    rintro rfl
    exact absurd h (by decide)
  simp [opt1, h2]
/-- a sign, and digits -/
def signD (neg : Bool) (D : List UInt8) : List UInt8 := (if neg then [45] else []) ++ D
theorem sign_opt {neg : Bool} {D r : List UInt8} (hD : ∀ d ∈ D, isDig d = true) (h0 : D ≠ []) : opt1 45 (signD neg D ++ r) = (neg, D ++ r) := by
  cases neg with
  | true => simp [signD, opt1]
  | false =>
    cases D with
    | nil => exact absurd rfl h0
    | cons d D =>
      exact opt1_dig (hD d (List.mem_cons_self ..))
/-- what a text is that begins with a number -/
theorem parse_num {neg : Bool} {D r : List UInt8} (hD : ∀ d ∈ D, isDig d = true) (h0 : D ≠ []) (hl : (signD neg D ++ r).length ≤ 1048576) :
    parseV (signD neg D ++ r) = match numV (signD neg D ++ r) with
      | .error (p, e) => .error ((signD neg D ++ r).length - p.length, e)
      | .ok (n, q) => match skipB q with
        | [] => .ok (oneJ 4 n none_)
        | c :: p => .error ((signD neg D ++ r).length - (c :: p).length, 70) := by
  obtain ⟨c, t, hc, hb⟩ : ∃ c t, signD neg D ++ r = c :: t ∧ (isDig c = true ∨ c = 45) := by
    cases neg with
    | true => exact ⟨45, D ++ r, rfl, .inr rfl⟩
    | false =>
      cases D with
      | nil => exact absurd rfl h0
      | cons d D => exact ⟨d, D ++ r, rfl, .inl (hD d (List.mem_cons_self ..))⟩
  rw [hc] at hl ⊢
  have ne : ∀ k : UInt8, isDig k = false → k ≠ 45 → c ≠ k := by
    rintro k h1 h2 rfl
    rcases hb with hb | hb
    · rw [h1] at hb; cases hb
    · exact h2 hb
  have hsk : skipB (c :: t) = c :: t := by
    have h1 := ne 32 (by decide) (by decide)
    have h2 := ne 9 (by decide) (by decide)
    have h3 := ne 10 (by decide) (by decide)
    have h4 := ne 13 (by decide) (by decide)
    simp [skipB, isBlank, h1, h2, h3, h4]
  have hbeg : ¬ begB c = false := by
    unfold begB
    rcases hb with hb | hb
    · rw [hb]; simp
    · subst hb; decide
  have hleaf : leafV c (c :: t) = match numV (c :: t) with | .error b => .error b | .ok (n, q) => .ok (oneJ 4 n none_, q) := by
    unfold leafV
    rw [if_neg (ne 110 (by decide) (by decide)), if_neg (ne 102 (by decide) (by decide)), if_neg (ne 116 (by decide) (by decide)), if_neg (ne 34 (by decide) (by decide))]
    cases numV (c :: t) <;> rfl
  unfold parseV
  rw [if_neg (by omega), hsk]
  have hpv : pv (fuelOf (c :: t)) 0 0 (c :: t) = leafV c (c :: t) := by
    unfold fuelOf
    simp only [pv]
    rw [if_neg hbeg, if_neg (by decide), if_neg (by decide), if_neg (by
      rintro (h | h)
      · exact ne 91 (by decide) (by decide) h
      · exact ne 123 (by decide) (by decide) h)]
  rw [hpv, hleaf]
  cases numV (c :: t) with
  | error b => rfl
  | ok x =>
    obtain ⟨n, q⟩ := x
    simp only
    cases skipB q <;> rfl
/-- the numeral of a number -/
theorem itoa_sign (n : Int) : itoa n = signD (decide (n < 0)) (decDigits n.natAbs) := by
  unfold Lib.itoa signD
  by_cases h : n < 0
  · rw [if_pos h, decide_eq_true h]; rfl
  · rw [if_neg h, decide_eq_false h, show n.toNat = n.natAbs by omega]; rfl
theorem dec_form (u : Nat) : decDigits u = [48] ∨ ∃ d D', decDigits u = d :: D' ∧ d ≠ 48 := by
  obtain ⟨d, r, e, _, h2, h3⟩ := dec_head u
  by_cases h : u = 0
  · obtain ⟨h4, h5⟩ := h3 h
    rw [e, h4, h5]
    exact .inl rfl
  · exact .inr ⟨d, r, e, h2 h⟩
theorem dec_ne (u : Nat) : decDigits u ≠ [] := by
  obtain ⟨d, r, e, _⟩ := dec_head u
  rw [e]
  simp
theorem signed_dec (n : Int) : signed (decide (n < 0)) (decV (decDigits n.natAbs)) = n := by
  rw [dec_val]
  unfold signed
  by_cases h : n < 0
  · rw [decide_eq_true h, if_pos rfl]; omega
  · rw [decide_eq_false h, if_neg (by decide)]; omega
/-- a number's whole part is told -/
theorem num_whole {neg : Bool} {D r : List UInt8} (hD : ∀ d ∈ D, isDig d = true) (hr : Stops r) (h0 : D = [48] ∨ ∃ d D', D = d :: D' ∧ d ≠ 48) : numV (signD neg D ++ r) = match fracV r with
    | .error b => .error b
    | .ok (f, l3) => match expV l3 with
      | .error b => .error b
      | .ok (e, l4) =>
        if f = true ∨ e = true ∨ signed neg (decV D) < -9223372036854775808 ∨ 9223372036854775807 < signed neg (decV D) then .error (signD neg D ++ r, 73)
        else .ok (signed neg (decV D), l4) := by
  have hne : D ≠ [] := by
    rcases h0 with rfl | ⟨d, D', rfl, _⟩ <;> simp
  unfold numV
  rw [sign_opt hD hne]
  simp only
  rw [whole_app hD hr h0]
  simp only
  cases fracV r with
  | error b => rfl
  | ok x =>
    obtain ⟨f, l3⟩ := x
    simp only
    cases expV l3 with
    | error b => rfl
    | ok y => rfl
theorem frac_none {r : List UInt8} (h : ∀ t, r ≠ 46 :: t) : fracV r = .ok (false, r) := by
  unfold fracV
  cases r with
  | nil => rfl
  | cons c t =>
    have : c ≠ 46 := fun e => h t (by rw [e])
    simp [opt1, this]
theorem exp_none {r : List UInt8} (h : r = []) : expV r = .ok (false, r) := by
  subst h
  rfl
/-- digits are read as the number -/
theorem parse_itoa (n : Int) (h0 : -9223372036854775808 ≤ n) (h1 : n ≤ 9223372036854775807) (hl : (itoa n).length ≤ 1048576) : parseV (itoa n) = .ok (oneJ 4 n none_) := by
  rw [itoa_sign] at hl ⊢
  have e : signD (decide (n < 0)) (decDigits n.natAbs) = signD (decide (n < 0)) (decDigits n.natAbs) ++ [] := (List.append_nil _).symm
  rw [e] at hl ⊢
  rw [parse_num (dec_all _) (dec_ne _) hl, num_whole (dec_all _) (show Stops [] from trivial) (dec_form _)]
  simp only [fracV, opt1, expV, opt2]
  rw [signed_dec, if_neg (by simp; omega)]
  rfl
/-- digits too many -/
theorem parse_long {neg : Bool} {D : List UInt8} (hD : ∀ d ∈ D, isDig d = true) (h0 : ∃ d D', D = d :: D' ∧ d ≠ 48) (hv : 9223372036854775808 < decV D) (hl : (signD neg D).length ≤ 1048576) : parseV (signD neg D) = .error (0, 73) := by
  have hne : D ≠ [] := by
    obtain ⟨d, D', rfl, _⟩ := h0
    simp
  have e : signD neg D = signD neg D ++ [] := (List.append_nil _).symm
  rw [e] at hl ⊢
  rw [parse_num hD hne hl, num_whole hD (show Stops [] from trivial) (.inr h0)]
  simp only [fracV, opt1, expV, opt2]
  rw [if_pos (by
    cases neg
    · simp only [signed]; right; right; right; simp; omega
    · simp only [signed]; right; right; left; simp; omega)]
  simp
/-- a point, or an e, and digits: none that is whole -/
theorem parse_frac {neg : Bool} {D d : List UInt8} (hD : ∀ x ∈ D, isDig x = true) (h0 : D = [48] ∨ ∃ d D', D = d :: D' ∧ d ≠ 48) (hd : ∀ x ∈ d, isDig x = true) (hne : d ≠ []) : numV (signD neg D ++ (46 :: d)) = .error (signD neg D ++ (46 :: d), 73) := by
  rw [num_whole hD (show Stops (46 :: d) from (by decide : isDig 46 = false)) h0]
  have e : fracV (46 :: d) = .ok (true, []) := by
    unfold fracV
    rw [show opt1 46 (46 :: d) = (true, d) by simp [opt1]]
    have := digs1_app (r := []) hd (show Stops [] from trivial) hne
    rw [List.append_nil] at this
    simp only [this]
  rw [e]
  simp only [expV, opt2]
  rw [if_pos (by simp)]
theorem parse_exp {neg : Bool} {D d : List UInt8} {x : UInt8} {y : List UInt8} (hx : x = 101 ∨ x = 69) (hy : y = [] ∨ y = [43] ∨ y = [45]) (hD : ∀ x ∈ D, isDig x = true) (h0 : D = [48] ∨ ∃ d D', D = d :: D' ∧ d ≠ 48) (hd : ∀ x ∈ d, isDig x = true) (hne : d ≠ []) :
    numV (signD neg D ++ (x :: y ++ d)) = .error (signD neg D ++ (x :: y ++ d), 73) := by
  have hs : isDig x = false := by rcases hx with rfl | rfl <;> decide
  have h46 : x ≠ 46 := by rcases hx with rfl | rfl <;> decide
  rw [num_whole hD (show Stops (x :: y ++ d) from hs) h0]
  have e : fracV (x :: y ++ d) = .ok (false, x :: y ++ d) := frac_none (fun t h => h46 (by injection h))
  rw [e]
  simp only
  have e2 : expV (x :: y ++ d) = .ok (true, []) := by
    unfold expV
    rw [show opt2 101 69 (x :: y ++ d) = (true, y ++ d) by simp [opt2, hx]]
    simp only
    have e3 : (opt2 43 45 (y ++ d)).2 = d := by
      rcases hy with rfl | rfl | rfl
      · cases d with
        | nil => exact absurd rfl hne
        | cons c d =>
          have hc := hd c (List.mem_cons_self ..)
          have h1 : c ≠ 43 := by rintro rfl; exact absurd hc (by decide)
          have h2 : c ≠ 45 := by rintro rfl; exact absurd hc (by decide)
          simp [opt2, h1, h2]
      · simp [opt2]
      · simp [opt2]
    rw [e3]
    have := digs1_app (r := []) hd (show Stops [] from trivial) hne
    rw [List.append_nil] at this
    simp only [this]
  rw [e2]
  simp only
  rw [if_pos (by simp)]
theorem parse_exp_no {neg : Bool} {D : List UInt8} {y : List UInt8} (hy : y = [] ∨ y = [43]) (hD : ∀ x ∈ D, isDig x = true) (h0 : D = [48] ∨ ∃ d D', D = d :: D' ∧ d ≠ 48) : numV (signD neg D ++ (101 :: y)) = .error ([], 70) := by
  rw [num_whole hD (show Stops (101 :: y) from (by decide : isDig 101 = false)) h0]
  rw [frac_none (fun t h => by injection h with h; exact absurd h (by decide))]
  rcases hy with rfl | rfl <;> rfl
theorem parse_frac_no {neg : Bool} {D : List UInt8} (hD : ∀ x ∈ D, isDig x = true) (h0 : D = [48] ∨ ∃ d D', D = d :: D' ∧ d ≠ 48) : numV (signD neg D ++ [46, 93]) = .error ([93], 70) := by
  rw [num_whole hD (show Stops [46, 93] from (by decide : isDig 46 = false)) h0]
  rfl
end Go.Proofs.YtcddfpcapbdphaaDoor
