/- What a literal says is UTF-8: plain laws. -/
import Derived.Test.YtdlcibbbebhcoaaGreatDoorSufL
import Derived.Test.YtdlcibbbebhcoaaGreatDoorUnquW
import Derived.Lib.TrimUEq
import Derived.Lib.MapLaws
import Derived.Lib.ValidLaws
import Derived.Test.YtdlcibbbebhcoaaGreatDoorRBeg
/-! ### What a literal says is UTF-8: plain laws. -/
namespace Go.Proofs.YtdlcibbbebhcoaaGreatDoor
open Go.Lib (decodeN decodeL validD)

/-- bytes that may stand ahead of any others -/
def Uok (p : List UInt8) : Prop := ∀ rest, validD (p ++ rest) = validD rest
theorem uok_nil : Uok [] := fun _ => rfl
theorem uok_append {a b : List UInt8} (ha : Uok a) (hb : Uok b) : Uok (a ++ b) := fun rest => by rw [List.append_assoc, ha, hb]
theorem uok_valid {p : List UInt8} (h : Uok p) : validD p = true := by
  have := h []
  rw [List.append_nil] at this
  rw [this]
  rfl
theorem uok_1 {a : UInt8} (h : a.toNat < 128) : Uok [a] := fun rest => Lib.validD_cons a rest h
theorem uok_2 {a b : UInt8} (h0 : a.toNat / 32 = 6) (h1 : b.toNat / 64 = 2) (h2 : 128 ≤ a.toNat % 32 * 64 + b.toNat % 64) : Uok [a, b] := fun rest => by
  have hd : decodeL (a :: b :: rest) = (a.toNat % 32 * 64 + b.toNat % 64, 2) := by
    rw [Lib.decodeL_N]
    simp only [List.getD_cons_zero, List.getD_cons_succ, List.length_cons]
    unfold decodeN
    rw [if_neg (by omega), if_pos ⟨h0, by omega, h1⟩, if_pos h2]
  rw [show [a, b] ++ rest = a :: b :: rest from rfl, Lib.validD_step _ (by simp), hd, if_neg (by simp)]
  rfl
theorem uok_3 {a b c : UInt8} (h0 : a.toNat / 16 = 14) (h1 : b.toNat / 64 = 2) (h2 : c.toNat / 64 = 2) (h3 : 2048 ≤ a.toNat % 16 * 4096 + b.toNat % 64 * 64 + c.toNat % 64)
    (h4 : a.toNat % 16 * 4096 + b.toNat % 64 * 64 + c.toNat % 64 < 55296 ∨ 57344 ≤ a.toNat % 16 * 4096 + b.toNat % 64 * 64 + c.toNat % 64) : Uok [a, b, c] := fun rest => by
  have hd : decodeL (a :: b :: c :: rest) = (a.toNat % 16 * 4096 + b.toNat % 64 * 64 + c.toNat % 64, 3) := by
    rw [Lib.decodeL_N]
    simp only [List.getD_cons_zero, List.getD_cons_succ, List.length_cons]
    unfold decodeN
    rw [if_neg (by omega), if_neg (by omega), if_pos ⟨h0, ⟨by omega, h1⟩, by omega, h2⟩, if_pos ⟨h3, by omega⟩]
  rw [show [a, b, c] ++ rest = a :: b :: c :: rest from rfl, Lib.validD_step _ (by simp), hd, if_neg (by simp)]
  rfl
theorem uok_4 {a b c d : UInt8} (h0 : a.toNat / 8 = 30) (h1 : b.toNat / 64 = 2) (h2 : c.toNat / 64 = 2) (h5 : d.toNat / 64 = 2) (h3 : 65536 ≤ a.toNat % 8 * 262144 + b.toNat % 64 * 4096 + c.toNat % 64 * 64 + d.toNat % 64)
    (h4 : a.toNat % 8 * 262144 + b.toNat % 64 * 4096 + c.toNat % 64 * 64 + d.toNat % 64 ≤ 1114111) : Uok [a, b, c, d] := fun rest => by
  have hd : decodeL (a :: b :: c :: d :: rest) = (a.toNat % 8 * 262144 + b.toNat % 64 * 4096 + c.toNat % 64 * 64 + d.toNat % 64, 4) := by
    rw [Lib.decodeL_N]
    simp only [List.getD_cons_zero, List.getD_cons_succ, List.length_cons]
    unfold decodeN
    rw [if_neg (by omega), if_neg (by omega), if_neg (by omega), if_pos ⟨h0, ⟨by omega, h1⟩, ⟨by omega, h2⟩, by omega, h5⟩, if_pos ⟨h3, by omega⟩]
  rw [show [a, b, c, d] ++ rest = a :: b :: c :: d :: rest from rfl, Lib.validD_step _ (by simp), hd, if_neg (by simp)]
  rfl
theorem of_nat {n : Nat} (h : n < 256) : (UInt8.ofNat n).toNat = n := by simp; omega
/-- a rune's bytes, whatever the rune -/
theorem uok_enc (n : Nat) : Uok (encL n) := by
  rw [encL_def]
  unfold Utf8.encode
  simp only
  obtain ⟨c, hc⟩ : ∃ c, (if Utf8.valid (n : Int) = true then (n : Int).toNat else Utf8.runeError) = c := ⟨_, rfl⟩
  have hv : c < 55296 ∨ (57344 ≤ c ∧ c ≤ 1114111) := by
    rw [← hc]
    split
    · rename_i h
      unfold Utf8.valid at h
      simp at h
      omega
    · unfold Utf8.runeError
      omega
  rw [hc]
  split
  · rename_i h
    exact uok_1 (by rw [of_nat (by omega)]; exact h)
  split
  · exact uok_2 (by rw [of_nat (by omega)]; omega) (by rw [of_nat (by omega)]; omega) (by rw [of_nat (by omega), of_nat (by omega)]; omega)
  split
  · exact uok_3 (by rw [of_nat (by omega)]; omega) (by rw [of_nat (by omega)]; omega) (by rw [of_nat (by omega)]; omega) (by rw [of_nat (by omega), of_nat (by omega), of_nat (by omega)]; omega) (by rw [of_nat (by omega), of_nat (by omega), of_nat (by omega)]; omega)
  · exact uok_4 (by rw [of_nat (by omega)]; omega) (by rw [of_nat (by omega)]; omega) (by rw [of_nat (by omega)]; omega) (by rw [of_nat (by omega)]; omega) (by rw [of_nat (by omega), of_nat (by omega), of_nat (by omega), of_nat (by omega)]; omega) (by rw [of_nat (by omega), of_nat (by omega), of_nat (by omega), of_nat (by omega)]; omega)
theorem three_of {l : List UInt8} (h : 2 < l.length) : ∃ a b c r, l = a :: b :: c :: r := by
  cases l with
  | nil => simp at h
  | cons a l =>
    cases l with
    | nil => simp at h
    | cons b l =>
      cases l with
      | nil => simp at h
      | cons c l => exact ⟨a, b, c, l, rfl⟩
theorem four_of {l : List UInt8} (h : 3 < l.length) : ∃ a b c d r, l = a :: b :: c :: d :: r := by
  obtain ⟨a, b, c, l, rfl⟩ := three_of (l := l) (by omega)
  cases l with
  | nil => simp at h
  | cons d l => exact ⟨a, b, c, d, l, rfl⟩
/-- a rune that stands there -/
theorem uok_rune (l : List UInt8) (h : ¬ ((decodeL l).1 = 65533 ∧ (decodeL l).2 = 1)) (hne : l ≠ []) : Uok (l.take (decodeL l).2) := by
  rw [Lib.decodeL_N] at h ⊢
  rcases Lib.decodeN_shape l.length (l.getD 0 0).toNat (l.getD 1 0).toNat (l.getD 2 0).toNat (l.getD 3 0).toNat with ⟨c, e⟩ | ⟨c1, c2, c3, cv, e⟩ | ⟨c1, c2, c3, c4, cv, cs, e⟩ | ⟨c1, c2, c3, c4, c5, cv, cw, e⟩ | e
  · rw [e]
    match l, hne with
    | a :: l, _ => exact uok_1 c
  · rw [e]
    match l, c2 with
    | a :: b :: l, _ => exact uok_2 c1 c3 cv
  · rw [e]
    obtain ⟨a, b, d, l, rfl⟩ := three_of c2
    simp only [List.getD_cons_zero, List.getD_cons_succ] at c1 c3 c4 cv cs
    exact uok_3 c1 c3 c4 cv cs
  · rw [e]
    obtain ⟨a, b, d, f, l, rfl⟩ := four_of c2
    simp only [List.getD_cons_zero, List.getD_cons_succ] at c1 c3 c4 c5 cv cw
    exact uok_4 c1 c3 c4 c5 cv cw
  · rw [e] at h
    exact absurd ⟨rfl, rfl⟩ h
theorem escV_uok {l r t : List UInt8} (h : escV l = .ok (t, r)) : Uok t := by
  cases l with
  | nil => cases h
  | cons c l =>
    simp only [escV] at h
    split at h
    · injection h with h; injection h with h _; subst h; exact uok_1 (by decide)
    split at h
    · injection h with h; injection h with h _; subst h; exact uok_enc _
    split at h
    · cases h
    split at h
    · cases h
    split at h
    · split at h
      · cases h
      split at h
      · cases h
      split at h
      · cases h
      injection h with h; injection h with h _; subst h
      exact uok_enc _
    · injection h with h; injection h with h _; subst h
      exact uok_enc _
theorem pieceV_uok {l r t : List UInt8} (h : pieceV l = .ok (t, r)) : Uok t := by
  cases l with
  | nil => cases h
  | cons c l =>
    simp only [pieceV] at h
    split at h
    · exact escV_uok h
    · simp only [plainV] at h
      split at h
      · cases h
      split at h
      · rename_i hn
        injection h with h; injection h with h _; subst h
        have hr : ¬ Utf8.decode (bT (c :: l)) 0 = (65533, 1) := by
          intro e
          apply hn
          unfold runeN
          rw [if_pos e]
        have e : runeN (c :: l) = (decodeL (c :: l)).2 := by
          unfold runeN
          rw [if_neg hr]
          rfl
        rw [e]
        refine uok_rune _ (fun k => hr ?_) (by simp)
        have e2 : Utf8.decode (bT (c :: l)) 0 = decodeL (c :: l) := rfl
        rw [e2]
        exact Prod.ext k.1 k.2
      · split at h <;> cases h
theorem unqB_uok : ∀ (f : Nat) (l r t : List UInt8), unqB f l = .ok (t, r) → Uok t
  | 0, _, _, _, h => by cases h
  | f + 1, [], _, _, h => by cases h
  | f + 1, c :: l, r, t, h => by
    simp only [unqB] at h
    split at h
    · injection h with h; injection h with h _; subst h; exact uok_nil
    split at h
    · cases h
    rename_i t1 r1 h1
    split at h
    · cases h
    rename_i u r2 h2
    injection h with h; injection h with h _; subst h
    exact uok_append (pieceV_uok h1) (unqB_uok f _ _ _ h2)
theorem litV_uok {l r t : List UInt8} (h : litV l = .ok (t, r)) : vU (bT t) = true := by
  have hg : Uok t := by
    cases l with
    | nil => cases h
    | cons c l =>
      simp only [litV] at h
      split at h
      · cases h
      split at h
      · cases h
      · rename_i x hx
        injection h with h
        subst h
        simp only [unqV] at hx
        split at hx
        · cases hx
        · exact unqB_uok _ _ _ _ hx
  unfold vU
  have e : (bT t).data.toList = t := by simp [bT]
  rw [e]
  exact uok_valid hg
end Go.Proofs.YtdlcibbbebhcoaaGreatDoor

/-! ### The document's Put says a rune's bytes: the plain law. -/
namespace Go.Proofs.YtdlcibbbebhcoaaGreatDoor
open Go.RowKit

theorem put_list {n : Nat} (h : scalarB n = true) : putL n = (encL n).map fun y => (y.toNat : Int) := by
  have hv : n < 55296 ∨ (57343 < n ∧ n ≤ 1114111) := by
    unfold scalarB at h
    simp at h
    omega
  have hc : (if Utf8.valid (n : Int) = true then (n : Int).toNat else Utf8.runeError) = n := by
    rw [if_pos (by rw [valid_scalar]; simp; omega)]
    rfl
  rw [encL_def]
  unfold Utf8.encode
  simp only [hc]
  unfold putL
  by_cases h1 : n < 128
  · rw [if_neg (by omega), if_neg (by omega), if_neg (by omega), if_pos h1]
    simp only [List.map_cons, List.map_nil, of_nat (show n < 256 by omega)]
  · by_cases h2 : n < 2048
    · rw [if_neg (by omega), if_neg (by omega), if_pos (by omega), if_neg h1, if_pos h2]
      simp only [List.map_cons, List.map_nil, of_nat (show 192 + n / 64 < 256 by omega), of_nat (show 128 + n % 64 < 256 by omega), List.cons.injEq, and_true]
      exact ⟨by omega, by omega⟩
    · by_cases h3 : n < 65536
      · rw [if_neg (by omega), if_pos (by omega), if_neg h1, if_neg h2, if_pos h3]
        simp only [List.map_cons, List.map_nil, of_nat (show 224 + n / 4096 < 256 by omega), of_nat (show 128 + n / 64 % 64 < 256 by omega), of_nat (show 128 + n % 64 < 256 by omega), List.cons.injEq, and_true]
        exact ⟨by omega, by omega, by omega⟩
      · rw [if_pos (by omega), if_neg h1, if_neg h2, if_neg h3]
        simp only [List.map_cons, List.map_nil, of_nat (show 240 + n / 262144 < 256 by omega), of_nat (show 128 + n / 4096 % 64 < 256 by omega), of_nat (show 128 + n / 64 % 64 < 256 by omega), of_nat (show 128 + n % 64 < 256 by omega), List.cons.injEq, and_true]
        exact ⟨by omega, by omega, by omega, by omega⟩
theorem put_val {n : Nat} (h : scalarB n = true) : putVal n = .tuple #[.string (bT (encL n)), .bool true] := by
  unfold putVal
  rw [if_pos h]
  have e := (strOf_eq (putL n) (encL n) (putL_bd n (scalar_le h))).2 (put_list h)
  rw [e]
  rfl
/-- what four digits say, if they are no first half, is a rune -/
theorem half_scalar {l r : List UInt8} {n : Nat} (h : half4 false l = .ok (n, r)) (hh : isHigh n = false) : scalarB n = true ∧ n < 65536 := by
  have h1 := (half4_less h).2
  unfold half4 at h
  split at h
  · cases h
  rename_i a l1 ha
  rw [if_neg (by simp)] at h
  split at h
  · cases h
  rename_i b l2 hb
  split at h
  · cases h
  rename_i hl
  split at h
  · cases h
  rename_i c l3 hc
  split at h
  · cases h
  rename_i d l4 hd
  injection h with h
  injection h with e1 e2
  have b1 := (hex1_less ha).2
  have b2 := (hex1_less hb).2
  have b3 := (hex1_less hc).2
  have b4 := (hex1_less hd).2
  have hl2 : lowHalf (16 * a + b) = false := by
    cases hx : lowHalf (16 * a + b) with
    | false => rfl
    | true => rw [hx] at hl; simp at hl
  unfold lowHalf at hl2
  unfold isHigh at hh
  simp at hl2 hh
  refine ⟨?_, h1⟩
  unfold scalarB
  simp
  omega
/-- four digits of a second half -/
theorem half_low {l r : List UInt8} {k : Nat} (h : half4 true l = .ok (k, r)) : 56320 ≤ k ∧ k ≤ 57343 := by
  unfold half4 at h
  split at h
  · cases h
  rename_i a l1 ha
  split at h
  · cases h
  rename_i hx
  split at h
  · cases h
  rename_i b l2 hb
  split at h
  · cases h
  rename_i hl
  split at h
  · cases h
  rename_i c l3 hc
  split at h
  · cases h
  rename_i d l4 hd
  injection h with h
  injection h with e1 e2
  have b2 := (hex1_less hb).2
  have b3 := (hex1_less hc).2
  have b4 := (hex1_less hd).2
  have ha13 : a = 13 := by
    by_cases h13 : a = 13
    · exact h13
    · exact absurd ⟨rfl, h13⟩ hx
  have hl2 : lowHalf (16 * a + b) = true := by
    cases hy : lowHalf (16 * a + b) with
    | true => rfl
    | false => rw [hy] at hl; simp at hl
  unfold lowHalf at hl2
  simp at hl2
  omega
theorem pair_scalar {l r : List UInt8} {n k : Nat} (hn : isHigh n = true) (h : half4 true l = .ok (k, r)) : scalarB (pairOf n k) = true ∧ (pairOf n k : Int) = 65536 + 1024 * ((n : Int) - 55296) + (k : Int) - 56320 := by
  obtain ⟨h1, h2⟩ := half_low h
  unfold isHigh at hn
  simp at hn
  unfold scalarB pairOf
  refine ⟨?_, by omega⟩
  simp
  omega
end Go.Proofs.YtdlcibbbebhcoaaGreatDoor
