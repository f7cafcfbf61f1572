/- What JreadNumbers asks of numerals: plain laws. -/
import Derived.Test.YtcddfpcapbdphaaDoorDecL
namespace Go.Proofs.YtcddfpcapbdphaaDoor
open Go.Lib (decDigits itoa)

theorem num_head {neg : Bool} {D r : List UInt8} (hD : ∀ d ∈ D, isDig d = true) (h0 : D ≠ []) : ∃ c t, signD neg D ++ r = c :: t ∧ skipB (c :: t) = c :: t ∧ begB c = true ∧ c ≠ 91 ∧ c ≠ 123 ∧ c ≠ 93 ∧ leafV c (c :: t) = match numV (c :: t) with | .error b => .error b | .ok (n, q) => .ok (oneJ 4 n none_, q) := by
  obtain ⟨c, t, hc, hb⟩ : ∃ c t, signD neg D ++ r = c :: t ∧ (isDig c = true ∨ c = 45) := by
    cases neg with
    | true => exact ⟨45, D ++ r, rfl, .inr rfl⟩
    | false =>
      cases D with
      | nil => exact absurd rfl h0
      | cons d D => exact ⟨d, D ++ r, rfl, .inl (hD d (List.mem_cons_self ..))⟩
  have ne : ∀ k : UInt8, isDig k = false → k ≠ 45 → c ≠ k := by
    rintro k h1 h2 rfl
    rcases hb with hb | hb
    · rw [h1] at hb; cases hb
    · exact h2 hb
  refine ⟨c, t, hc, ?_, ?_, ne 91 (by decide) (by decide), ne 123 (by decide) (by decide), ne 93 (by decide) (by decide), ?_⟩
  · have h1 := ne 32 (by decide) (by decide)
    have h2 := ne 9 (by decide) (by decide)
    have h3 := ne 10 (by decide) (by decide)
    have h4 := ne 13 (by decide) (by decide)
    simp [skipB, isBlank, h1, h2, h3, h4]
  · unfold begB
    rcases hb with hb | hb
    · rw [hb]; simp
    · subst hb; decide
  · unfold leafV
    rw [if_neg (ne 110 (by decide) (by decide)), if_neg (ne 102 (by decide) (by decide)), if_neg (ne 116 (by decide) (by decide)), if_neg (ne 34 (by decide) (by decide))]
    cases numV (c :: t) <;> rfl
/-- a number that is wrong, behind a blank -/
theorem parse_sp {neg : Bool} {D r p : List UInt8} {e : Int} (hD : ∀ d ∈ D, isDig d = true) (h0 : D ≠ []) (hl : (32 :: (signD neg D ++ r)).length ≤ 1048576) (hn : numV (signD neg D ++ r) = .error (p, e)) : parseV (32 :: (signD neg D ++ r)) = .error ((signD neg D ++ r).length + 1 - p.length, e) := by
  obtain ⟨c, t, hc, h1, h2, h3, h4, _, h6⟩ := num_head (r := r) (neg := neg) hD h0
  rw [hc] at hl hn ⊢
  have hsk : skipB (32 :: c :: t) = c :: t := by
    have : skipB (32 :: c :: t) = skipB (c :: t) := by simp [skipB, isBlank]
    rw [this, h1]
  unfold parseV
  rw [if_neg (by omega), hsk]
  have hpv : pv (fuelOf (32 :: c :: t)) 0 0 (c :: t) = .error (p, e) := by
    unfold fuelOf
    simp only [pv]
    rw [if_neg (by rw [h2]; decide), if_neg (by decide), if_neg (by decide), if_neg (by rintro (h | h); exact h3 h; exact h4 h), h6, hn]
  rw [hpv]
  rfl
/-- a number that is wrong, in a list -/
theorem parse_br {neg : Bool} {D r p : List UInt8} {e : Int} (hD : ∀ d ∈ D, isDig d = true) (h0 : D ≠ []) (hl : (91 :: (signD neg D ++ r)).length ≤ 1048576) (hn : numV (signD neg D ++ r) = .error (p, e)) : parseV (91 :: (signD neg D ++ r)) = .error ((signD neg D ++ r).length + 1 - p.length, e) := by
  obtain ⟨c, t, hc, h1, h2, h3, h4, h5, h6⟩ := num_head (r := r) (neg := neg) hD h0
  rw [hc] at hl hn ⊢
  have hsk : skipB (91 :: c :: t) = 91 :: c :: t := by simp [skipB, isBlank]
  unfold parseV
  rw [if_neg (by omega), hsk]
  have he : endV ((91 : UInt8) == 123) (c :: t) = (false, c :: t) := by
    unfold endV
    rw [h1]
    have : c ≠ lastOf ((91 : UInt8) == 123) := h5
    simp only [opt1]
    exact if_neg this
  have hpv : pv (fuelOf (91 :: c :: t)) 0 0 (91 :: c :: t) = .error (p, e) := by
    unfold fuelOf
    simp only [pv]
    rw [if_neg (by decide), if_neg (by decide), if_neg (by decide), if_pos (.inl trivial), he]
    simp only [List.length_cons]
    rw [show 2 * (t.length + 1 + 1) + 1 = (2 * (t.length + 1) + 1) + 1 + 1 by omega]
    simp only [pp, keyV]
    rw [if_pos (by decide)]
    simp only [h1, pv]
    rw [if_neg (by rw [h2]; decide), if_neg (by decide), if_neg (by decide), if_neg (by rintro (h | h); exact h3 h; exact h4 h), h6, hn]
  rw [hpv]
  rfl
theorem decOn_ge (ds : List UInt8) : ∀ a, a * 10 ^ ds.length ≤ decOn a ds := by
  induction ds with
  | nil => intro a; rw [decOn_nil]; simp
  | cons d ds ih =>
    intro a
    rw [decOn_cons]
    have h := ih (decS a d)
    have e := decS_eq a d
    refine Nat.le_trans ?_ h
    rw [List.length_cons, Nat.pow_succ, Nat.mul_comm (10 ^ ds.length) 10, ← Nat.mul_assoc]
    exact Nat.mul_le_mul_right _ (by omega)
/-- many digits make a great number -/
theorem decV_great {D t : List UInt8} (h1 : 1 ≤ decV D) (h2 : 19 ≤ t.length) : 9223372036854775808 < decV (D ++ t) := by
  have e : decV (D ++ t) = decOn (decV D) t := by
    unfold decV decOn
    rw [List.foldl_append]
    rfl
  rw [e]
  have h := decOn_ge t (decV D)
  have h3 : 10 ^ 19 ≤ 10 ^ t.length := Nat.pow_le_pow_right (by decide) h2
  have h4 : 1 * 10 ^ 19 ≤ decV D * 10 ^ t.length := Nat.mul_le_mul h1 h3
  have h5 : (10 : Nat) ^ 19 = 10000000000000000000 := by decide
  omega
section
variable {n : Int} {d : List UInt8}
theorem itoa_dec (n : Int) : (∀ x ∈ decDigits n.natAbs, isDig x = true) ∧ decDigits n.natAbs ≠ [] := ⟨dec_all _, dec_ne _⟩
theorem nums_3 (hd : ∀ x ∈ d, isDig x = true) (hne : d ≠ []) (hl : (itoa n ++ 46 :: d).length ≤ 1048576) : parseV (itoa n ++ 46 :: d) = .error (0, 73) := by
  rw [itoa_sign] at hl ⊢
  rw [parse_num (dec_all _) (dec_ne _) hl, parse_frac (dec_all _) (dec_form _) hd hne]
  simp
theorem nums_4 (hd : ∀ x ∈ d, isDig x = true) (hne : d ≠ []) (hl : (32 :: (itoa n ++ 101 :: d)).length ≤ 1048576) : parseV (32 :: (itoa n ++ 101 :: d)) = .error (1, 73) := by
  rw [itoa_sign] at hl ⊢
  have h := parse_exp (neg := decide (n < 0)) (x := 101) (y := []) (.inl rfl) (.inl rfl) (dec_all n.natAbs) (dec_form _) hd hne
  rw [List.cons_append, List.nil_append] at h
  rw [parse_sp (dec_all _) (dec_ne _) hl h]
  congr 2
  omega
theorem nums_5 (hd : ∀ x ∈ d, isDig x = true) (hne : d ≠ []) (hl : (itoa n ++ (69 :: 45 :: d)).length ≤ 1048576) : parseV (itoa n ++ (69 :: 45 :: d)) = .error (0, 73) := by
  rw [itoa_sign] at hl ⊢
  have h := parse_exp (neg := decide (n < 0)) (x := 69) (y := [45]) (.inr rfl) (.inr (.inr rfl)) (dec_all n.natAbs) (dec_form _) hd hne
  rw [parse_num (dec_all _) (dec_ne _) hl]
  rw [show (69 :: [45] ++ d) = 69 :: 45 :: d from rfl] at h
  rw [h]
  simp
theorem nums_6 (hl : (91 :: (itoa n ++ [46, 93])).length ≤ 1048576) : parseV (91 :: (itoa n ++ [46, 93])) = .error (2 + (itoa n).length, 70) := by
  rw [itoa_sign] at hl ⊢
  rw [parse_br (dec_all _) (dec_ne _) hl (parse_frac_no (dec_all _) (dec_form _))]
  congr 2
  rw [List.length_append]
  simp only [List.length_cons, List.length_nil]
  omega
theorem nums_7 (hl : (itoa n ++ [101]).length ≤ 1048576) : parseV (itoa n ++ [101]) = .error ((itoa n).length + 1, 70) := by
  rw [itoa_sign] at hl ⊢
  rw [parse_num (dec_all _) (dec_ne _) hl, parse_exp_no (.inl rfl) (dec_all _) (dec_form _)]
  simp
theorem nums_8 (hl : (itoa n ++ [101, 43]).length ≤ 1048576) : parseV (itoa n ++ [101, 43]) = .error ((itoa n).length + 2, 70) := by
  rw [itoa_sign] at hl ⊢
  rw [parse_num (dec_all _) (dec_ne _) hl, parse_exp_no (.inr rfl) (dec_all _) (dec_form _)]
  simp
theorem nums_2 {k : Nat} (h0 : n ≠ 0) (hk : 19 ≤ k) (hl : (itoa n ++ List.replicate k 55).length ≤ 1048576) : parseV (itoa n ++ List.replicate k 55) = .error (0, 73) := by
  rw [itoa_sign] at hl ⊢
  have e : signD (decide (n < 0)) (decDigits n.natAbs) ++ List.replicate k 55 = signD (decide (n < 0)) (decDigits n.natAbs ++ List.replicate k 55) := by unfold signD; rw [List.append_assoc]
  rw [e] at hl ⊢
  obtain ⟨c, r, hc, _, h2, _⟩ := dec_head n.natAbs
  refine parse_long (fun x hx => ?_) ⟨c, r ++ List.replicate k 55, by rw [hc]; rfl, h2 (by omega)⟩ (decV_great (by rw [dec_val]; omega) (by simpa using hk)) hl
  rcases List.mem_append.1 hx with hx | hx
  · exact dec_all _ x hx
  · rw [List.eq_of_mem_replicate hx]; decide
theorem nums_20 {k : Nat} (hk : 19 ≤ k) (hl : (49 :: (itoa 0 ++ List.replicate k 55)).length ≤ 1048576) : parseV (49 :: (itoa 0 ++ List.replicate k 55)) = .error (0, 73) := by
  have e : 49 :: (itoa 0 ++ List.replicate k 55) = signD false ([49, 48] ++ List.replicate k 55) := by
    have : itoa 0 = [48] := by
      rw [itoa_sign]
      have h := (dec_head 0).choose_spec.choose_spec
      rcases dec_form 0 with h1 | h1
      · rw [show (0 : Int).natAbs = 0 from rfl, h1]; rfl
      · obtain ⟨d, r, e, _, _, h3⟩ := dec_head 0
        obtain ⟨h4, h5⟩ := h3 rfl
        rw [show (0 : Int).natAbs = 0 from rfl, e, h4, h5]; rfl
    rw [this]
    rfl
  rw [e] at hl ⊢
  refine parse_long (fun x hx => ?_) ⟨49, 48 :: List.replicate k 55, rfl, by decide⟩ (decV_great (by decide) (by simpa using hk)) hl
  rcases List.mem_append.1 hx with hx | hx
  · simp at hx; rcases hx with rfl | rfl <;> decide
  · rw [List.eq_of_mem_replicate hx]; decide
end
end Go.Proofs.YtcddfpcapbdphaaDoor
