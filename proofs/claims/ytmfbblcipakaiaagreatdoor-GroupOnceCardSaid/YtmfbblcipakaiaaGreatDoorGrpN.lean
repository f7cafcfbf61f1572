/- The name of a key: of two keys there are two names. No program is named here. -/
import Derived.Test.YtmfbblcipakaiaaGreatDoorGrpL
import Derived.Lib.ItoaNum
namespace Go.Proofs.YtmfbblcipakaiaaGreatDoor
open Go.Lib

theorem dec_dig (u : Nat) : ∀ d ∈ decDigits u, 48 ≤ d.toNat ∧ d.toNat ≤ 57 := by
  induction u using Nat.strongRecOn with
  | _ u ih =>
    intro d hd
    have hb : ∀ k, k < 10 → (UInt8.ofNat (48 + k)).toNat = 48 + k := fun k hk => by
      rw [UInt8.toNat_ofNat']; omega
    by_cases h : u < 10
    · rw [decDigits, dif_pos h] at hd
      simp only [List.mem_singleton] at hd
      subst hd
      rw [hb u h]; omega
    · rw [decDigits, dif_neg h] at hd
      rcases List.mem_append.1 hd with hd | hd
      · exact ih (u / 10) (by omega) d hd
      · simp only [List.mem_singleton] at hd
        subst hd
        rw [hb (u % 10) (by omega)]; omega
def decNum (l : List UInt8) : Nat := l.foldl (fun a d => a * 10 + (d.toNat - 48)) 0
theorem decNum_dec (u : Nat) : decNum (decDigits u) = u := by
  induction u using Nat.strongRecOn with
  | _ u ih =>
    have hb : ∀ k, k < 10 → (UInt8.ofNat (48 + k)).toNat = 48 + k := fun k hk => by
      rw [UInt8.toNat_ofNat']; omega
    by_cases h : u < 10
    · rw [decDigits, dif_pos h]
      simp only [decNum, List.foldl_cons, List.foldl_nil]
      rw [hb u h]; omega
    · rw [decDigits, dif_neg h]
      have := ih (u / 10) (by omega)
      unfold decNum at this ⊢
      rw [List.foldl_append, this]
      simp only [List.foldl_cons, List.foldl_nil]
      rw [hb (u % 10) (by omega)]; omega
theorem dec_inj {u v : Nat} (h : decDigits u = decDigits v) : u = v := by
  rw [← decNum_dec u, h, decNum_dec]
theorem dec_ne45 (u : Nat) : ∀ d ∈ decDigits u, d ≠ 45 := by
  rintro d hd rfl
  have := (dec_dig u _ hd).1
  simp at this
theorem itoa_inj {n m : Int} (h : itoa n = itoa m) : n = m := by
  unfold itoa at h
  by_cases h1 : n < 0 <;> by_cases h2 : m < 0
  · rw [if_pos h1, if_pos h2] at h
    injection h with _ h
    have := dec_inj h
    omega
  · rw [if_pos h1, if_neg h2] at h
    exact absurd rfl (dec_ne45 m.toNat 45 (by rw [← h]; simp))
  · rw [if_neg h1, if_pos h2] at h
    exact absurd rfl (dec_ne45 n.toNat 45 (by rw [h]; simp))
  · rw [if_neg h1, if_neg h2] at h
    have := dec_inj h
    omega
theorem itoa_blank (n : Int) : ∀ d ∈ itoa n, d ≠ 32 := by
  rintro d hd rfl
  unfold itoa at hd
  have key : ∀ u, (32 : UInt8) ∉ decDigits u := fun u hu => by
    have := (dec_dig u _ hu).1
    simp at this
  split at hd
  · rcases List.mem_cons.1 hd with h | h
    · simp at h
    · exact key _ h
  · exact key _ hd
theorem blank_split {x y : List UInt8} : ∀ {a b : List UInt8}, (∀ d ∈ a, d ≠ 32) → (∀ d ∈ b, d ≠ 32) → a ++ 32 :: x = b ++ 32 :: y → a = b ∧ x = y
  | [], [], _, _, h => ⟨rfl, by simpa using h⟩
  | [], b :: _, _, hb, h => by
    simp only [List.nil_append, List.cons_append, List.cons.injEq] at h
    exact absurd h.1.symm (hb b (by simp))
  | a :: _, [], ha, _, h => by
    simp only [List.nil_append, List.cons_append, List.cons.injEq] at h
    exact absurd h.1 (ha a (by simp))
  | a :: as, b :: bs, ha, hb, h => by
    simp only [List.cons_append, List.cons.injEq] at h
    obtain ⟨h1, h2⟩ := h
    obtain ⟨h3, h4⟩ := blank_split (fun d hd => ha d (by simp [hd])) (fun d hd => hb d (by simp [hd])) h2
    exact ⟨by rw [h1, h3], h4⟩
def boolL (b : Bool) : List UInt8 := if b then [116, 114, 117, 101] else [102, 97, 108, 115, 101]
theorem boolL_inj {a b : Bool} (h : boolL a = boolL b) : a = b := by cases a <;> cases b <;> simp [boolL] at h ⊢
theorem boolL_blank (b : Bool) : ∀ d ∈ boolL b, d ≠ 32 := by cases b <;> simp [boolL]
theorem boolL_len (b : Bool) : (boolL b).length ≤ 5 := by cases b <;> simp [boolL]
def cellL (c : Cell) : List UInt8 := boolL c.null ++ 32 :: (itoa c.n ++ 32 :: (itoa (c.s.size : Int) ++ 32 :: c.s.data.toList))
def keyL (k : List Cell) : List UInt8 := k.flatMap cellL
theorem keyL_snoc (k : List Cell) (c : Cell) : keyL (k ++ [c]) = keyL k ++ cellL c := by simp [keyL]
theorem keyL_inj : ∀ {a b : List Cell}, keyL a = keyL b → a = b
  | [], [], _ => rfl
  | [], b :: _, h => by simp [keyL, cellL] at h
  | a :: _, [], h => by simp [keyL, cellL] at h
  | a :: as, b :: bs, h => by
    have h : cellL a ++ keyL as = cellL b ++ keyL bs := by simpa [keyL] using h
    simp only [cellL, List.append_assoc, List.cons_append] at h
    obtain ⟨h1, h⟩ := blank_split (boolL_blank _) (boolL_blank _) h
    obtain ⟨h2, h⟩ := blank_split (itoa_blank _) (itoa_blank _) h
    obtain ⟨h3, h⟩ := blank_split (itoa_blank _) (itoa_blank _) h
    have h3 := itoa_inj h3
    have hl : a.s.data.toList.length = b.s.data.toList.length := by
      simp only [Array.length_toList]
      have e1 : a.s.size = b.s.size := by omega
      exact e1
    obtain ⟨h4, h5⟩ := List.append_inj h hl
    have e : a = b := by
      obtain ⟨a1, a2, a3⟩ := a
      obtain ⟨b1, b2, b3⟩ := b
      simp only [Cell.mk.injEq]
      exact ⟨boolL_inj h1, itoa_inj h2, bytes_ext h4⟩
    rw [e, keyL_inj h5]
/-- a key as a text -/
def nameOf (k : List Cell) : ByteArray := ⟨(keyL k).toArray⟩
theorem nameOf_inj {a b : List Cell} (h : nameOf a = nameOf b) : a = b := by
  apply keyL_inj
  have := congrArg (fun x : ByteArray => x.data.toList) h
  simpa [nameOf] using this
theorem nameOf_size (k : List Cell) : (nameOf k).size = (keyL k).length := by
  show (keyL k).toArray.size = _
  simp
end Go.Proofs.YtmfbblcipakaiaaGreatDoor
