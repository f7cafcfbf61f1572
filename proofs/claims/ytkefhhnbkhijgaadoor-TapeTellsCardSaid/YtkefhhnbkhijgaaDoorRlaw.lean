/- The document's Valid answers as the library's ValidString: the plain law. -/
import Derived.Test.YtkefhhnbkhijgaaDoorRnext
import Derived.Test.YtkefhhnbkhijgaaDoorValid
namespace Go.Proofs.YtkefhhnbkhijgaaDoor
open Go.RowKit

theorem strOf_eq (xs : List Int) (ys : List UInt8) (h : ∀ x ∈ xs, 0 ≤ x ∧ x < 256) : strOfNums xs = ⟨ys.toArray⟩ ↔ xs = ys.map (fun y => (y.toNat : Int)) := by
  constructor
  · intro e
    have e2 : xs.map (fun n => UInt8.ofNat n.toNat) = ys := by
      have := congrArg (fun s : ByteArray => s.data.toList) e
      simpa [strOfNums] using this
    rw [← e2, List.map_map]
    symm
    have : ∀ x ∈ xs, ((fun y : UInt8 => (y.toNat : Int)) ∘ fun n : Int => UInt8.ofNat n.toNat) x = x := by
      intro x hx
      obtain ⟨h1, h2⟩ := h x hx
      simp only [Function.comp]
      rw [UInt8.toNat_ofNat']
      omega
    calc xs.map _ = xs.map id := List.map_congr_left this
      _ = xs := List.map_id _
  · rintro rfl
    simp [strOfNums, List.map_map, Function.comp_def]
theorem putL_bd (n : Nat) (h : n ≤ 1114111) : ∀ x ∈ putL n, 0 ≤ x ∧ x < 256 := by
  intro x hx
  unfold putL at hx
  split at hx
  · simp at hx; omega
  · split at hx
    · simp at hx; omega
    · split at hx
      · simp at hx; omega
      · simp at hx; omega
theorem scalar_le {n : Nat} (h : scalarB n = true) : n ≤ 1114111 := by
  unfold scalarB at h
  simp at h
  exact h.1
/-- a text of these bytes -/
def txt (l : List UInt8) : ByteArray := ⟨l.toArray⟩
theorem txt_size (l : List UInt8) : (txt l).size = l.length := by simp [txt, ByteArray.size]
theorem txt_ext (l : List UInt8) (n : Nat) : (txt l).extract 0 n = txt (l.take n) := by
  apply bytes_ext
  simp [txt, ByteArray.toList_eq, ByteArray.data_extract]
theorem hit_txt (l : List UInt8) (n : Nat) (hn : n ≤ l.length) : hit (txt l) n = (scalarB (numAt (txt l) n) && decide (putL (numAt (txt l) n) = (l.take n).map (fun y => (y.toNat : Int)))) := by
  unfold hit
  rw [decide_eq_true (by rw [txt_size]; exact hn), Bool.true_and]
  cases hs : scalarB (numAt (txt l) n)
  · rfl
  · rw [Bool.true_and, Bool.true_and, txt_ext]
    rw [decide_eq_decide]
    exact strOf_eq _ _ (putL_bd _ (scalar_le hs))
theorem num1 (a : UInt8) (r : List UInt8) : numAt (txt (a :: r)) 1 = a.toNat := by
  unfold numAt
  rw [txt_ext]
  simp [numTo, modOf, txt, ByteArray.get!, ByteArray.size]
theorem num2 (a b : UInt8) (r : List UInt8) : numAt (txt (a :: b :: r)) 2 = 64 * (a.toNat % 32) + b.toNat % 64 := by
  unfold numAt
  rw [txt_ext]
  simp [numTo, modOf, txt, ByteArray.get!, ByteArray.size]
theorem num3 (a b c : UInt8) (r : List UInt8) : numAt (txt (a :: b :: c :: r)) 3 = 64 * (64 * (a.toNat % 16) + b.toNat % 64) + c.toNat % 64 := by
  unfold numAt
  rw [txt_ext]
  simp [numTo, modOf, txt, ByteArray.get!, ByteArray.size]
theorem num4 (a b c d : UInt8) (r : List UInt8) : numAt (txt (a :: b :: c :: d :: r)) 4 = 64 * (64 * (64 * (a.toNat % 8) + b.toNat % 64) + c.toNat % 64) + d.toNat % 64 := by
  unfold numAt
  rw [txt_ext]
  simp [numTo, modOf, txt, ByteArray.get!, ByteArray.size]
theorem hit1 (a : UInt8) (r : List UInt8) : hit (txt (a :: r)) 1 = decide (a.toNat < 128) := by
  have := a.toNat_lt
  rw [hit_txt _ _ (by simp), num1, Bool.eq_iff_iff]
  unfold scalarB putL
  rw [if_neg (by omega), if_neg (by omega)]
  split <;> simp <;> omega
theorem hit2 (a b : UInt8) (r : List UInt8) : hit (txt (a :: b :: r)) 2 = decide (a.toNat / 32 = 6 ∧ b.toNat / 64 = 2 ∧ 128 ≤ 64 * (a.toNat % 32) + b.toNat % 64) := by
  have := a.toNat_lt
  have := b.toNat_lt
  rw [hit_txt _ _ (by simp), num2, Bool.eq_iff_iff]
  unfold scalarB putL
  rw [if_neg (by omega), if_neg (by omega)]
  split <;> simp <;> omega
theorem hit3 (a b c : UInt8) (r : List UInt8) : hit (txt (a :: b :: c :: r)) 3 = decide (a.toNat / 16 = 14 ∧ b.toNat / 64 = 2 ∧ c.toNat / 64 = 2 ∧ 2048 ≤ 64 * (64 * (a.toNat % 16) + b.toNat % 64) + c.toNat % 64 ∧ ¬ (55296 ≤ 64 * (64 * (a.toNat % 16) + b.toNat % 64) + c.toNat % 64 ∧ 64 * (64 * (a.toNat % 16) + b.toNat % 64) + c.toNat % 64 ≤ 57343)) := by
  have := a.toNat_lt
  have := b.toNat_lt
  have := c.toNat_lt
  rw [hit_txt _ _ (by simp), num3, Bool.eq_iff_iff]
  unfold scalarB putL
  rw [if_neg (by omega)]
  split
  · simp; omega
  · split <;> simp <;> omega
theorem hit4 (a b c d : UInt8) (r : List UInt8) : hit (txt (a :: b :: c :: d :: r)) 4 = decide (a.toNat / 8 = 30 ∧ b.toNat / 64 = 2 ∧ c.toNat / 64 = 2 ∧ d.toNat / 64 = 2 ∧ 65536 ≤ 64 * (64 * (64 * (a.toNat % 8) + b.toNat % 64) + c.toNat % 64) + d.toNat % 64 ∧ 64 * (64 * (64 * (a.toNat % 8) + b.toNat % 64) + c.toNat % 64) + d.toNat % 64 ≤ 1114111) := by
  have := a.toNat_lt
  have := b.toNat_lt
  have := c.toNat_lt
  have := d.toNat_lt
  rw [hit_txt _ _ (by simp), num4, Bool.eq_iff_iff]
  unfold scalarB putL
  split
  · simp; omega
  · split
    · simp; omega
    · split <;> simp <;> omega
theorem hit_short {l : List UInt8} {n : Nat} (h : l.length < n) : hit (txt l) n = false := by
  unfold hit
  rw [decide_eq_false (by rw [txt_size]; omega)]
  rfl
theorem valid_scalar (c : Nat) : Utf8.valid c = (decide (c < 55296) || (decide (57343 < c) && decide (c ≤ 1114111))) := by
  unfold Utf8.valid
  rw [Bool.eq_iff_iff]
  simp
  omega
/-- the size of the first rune -/
theorem next_decode (l : List UInt8) (h : l ≠ []) : nextN (txt l) = if Utf8.decode (txt l) 0 = (65533, 1) then 0 else (Utf8.decode (txt l) 0).2 := by
  match l, h with
  | [a], _ =>
    have ha := a.toNat_lt
    unfold nextN
    rw [hit1, hit_short (n := 2) (by simp), hit_short (n := 3) (by simp), hit_short (n := 4) (by simp)]
    simp only [Utf8.decode, Utf8.runeError, txt_size]
    simp [txt, ByteArray.get!]
    split <;> simp <;> omega
  | [a, b], _ =>
    have ha := a.toNat_lt
    have hb := b.toNat_lt
    have e0 : (txt ([a, b])).get! 0 = a := rfl
    have e1 : (txt ([a, b])).get! 1 = b := rfl
    unfold nextN
    rw [hit1, hit2, hit_short (n := 3) (by simp), hit_short (n := 4) (by simp)]
    simp only [Utf8.decode, Utf8.runeError, txt_size, Nat.zero_add, e0, e1, List.length_cons, List.length_nil, valid_scalar]
    clear e0 e1
    generalize a.toNat = A at *
    generalize b.toNat = B at *
    simp only [decide_eq_true_eq, Bool.and_eq_true, Bool.or_eq_true, beq_iff_eq, Bool.false_eq_true, if_false, Nat.lt_irrefl, decide_false, Bool.false_and, Bool.and_false]
    repeat' split
    all_goals first | rfl | omega | exact absurd rfl ‹¬ ((65533, 1) : Nat × Nat) = (65533, 1)› | (simp only [Prod.mk.injEq] at *; omega)
  | [a, b, c], _ =>
    have ha := a.toNat_lt
    have hb := b.toNat_lt
    have hc := c.toNat_lt
    have e0 : (txt ([a, b, c])).get! 0 = a := rfl
    have e1 : (txt ([a, b, c])).get! 1 = b := rfl
    have e2 : (txt ([a, b, c])).get! 2 = c := rfl
    unfold nextN
    rw [hit1, hit2, hit3, hit_short (n := 4) (by simp)]
    simp only [Utf8.decode, Utf8.runeError, txt_size, Nat.zero_add, e0, e1, e2, List.length_cons, List.length_nil, valid_scalar]
    clear e0 e1 e2
    generalize a.toNat = A at *
    generalize b.toNat = B at *
    generalize c.toNat = C at *
    simp only [decide_eq_true_eq, Bool.and_eq_true, Bool.or_eq_true, beq_iff_eq, Bool.false_eq_true, if_false, Nat.lt_irrefl, decide_false, Bool.false_and, Bool.and_false]
    repeat' split
    all_goals first | rfl | omega | exact absurd rfl ‹¬ ((65533, 1) : Nat × Nat) = (65533, 1)› | (simp only [Prod.mk.injEq] at *; omega)
  | a :: b :: c :: d :: r, _ =>
    have ha := a.toNat_lt
    have hb := b.toNat_lt
    have hc := c.toNat_lt
    have hd := d.toNat_lt
    have e0 : (txt (a :: b :: c :: d :: r)).get! 0 = a := rfl
    have e1 : (txt (a :: b :: c :: d :: r)).get! 1 = b := rfl
    have e2 : (txt (a :: b :: c :: d :: r)).get! 2 = c := rfl
    have e3 : (txt (a :: b :: c :: d :: r)).get! 3 = d := rfl
    unfold nextN
    rw [hit1, hit2, hit3, hit4]
    simp only [Utf8.decode, Utf8.runeError, txt_size, Nat.zero_add, e0, e1, e2, e3, List.length_cons, valid_scalar]
    clear e0 e1 e2 e3
    generalize a.toNat = A at *
    generalize b.toNat = B at *
    generalize c.toNat = C at *
    generalize d.toNat = D at *
    simp only [decide_eq_true_eq, Bool.and_eq_true, Bool.or_eq_true, beq_iff_eq]
    repeat' split
    all_goals first | rfl | omega | exact absurd rfl ‹¬ ((65533, 1) : Nat × Nat) = (65533, 1)› | (simp only [Prod.mk.injEq] at *; omega)
theorem txt_of (s : ByteArray) : txt s.data.toList = s := by cases s; simp [txt]
theorem decode_pos (s : ByteArray) : 1 ≤ (Utf8.decode s 0).2 := by
  unfold Utf8.decode
  simp only
  repeat' split
  all_goals simp
theorem valid_steps : ∀ (k : Nat) (l : List UInt8), validN k (txt l) = Lib.validGoD k l
  | 0, _ => rfl
  | k + 1, l => by
    rw [validN, Lib.validGoD, txt_size]
    by_cases h : l = []
    · rw [if_pos (by rw [h]; rfl), if_pos h]
    · have hl : l.length ≠ 0 := fun e => h (List.eq_nil_of_length_eq_zero e)
      rw [if_neg hl, if_neg h, next_decode l h]
      have e : Lib.decodeL l = Utf8.decode (txt l) 0 := rfl
      rw [e]
      have hpos := decode_pos (txt l)
      generalize Utf8.decode (txt l) 0 = d at *
      obtain ⟨x, y⟩ := d
      by_cases hb : x = 65533 ∧ y = 1
      · obtain ⟨rfl, rfl⟩ := hb
        simp
      · have hne : ¬ ((x, y) : Nat × Nat) = (65533, 1) := by
          intro e
          injection e with e1 e2
          exact hb ⟨e1, e2⟩
        rw [if_neg hb, if_neg hne, if_neg (by simp only at hpos ⊢; omega)]
        have : (txt l).extract y l.length = txt (l.drop y) := by
          apply bytes_ext
          simp only [txt, ByteArray.toList_eq, ByteArray.data_extract]
          simp [List.take_of_length_le]
        simp only [this]
        exact valid_steps k _
theorem validR_vU (s : ByteArray) : validR s = vU s := by
  unfold validR vU Lib.validD
  have h := valid_steps s.size s.data.toList
  rw [txt_of] at h
  rw [h]
  rfl
theorem ref_Valid' (s : ByteArray) (w : World) (hs : s.size ≤ 9223372036854775807) : Calls Tryd.prog 49 #[.string s] w fun e w' => e = .returned (.bool (vU s)) ∧ Old w w' := by
  rw [← validR_vU]
  exact ref_Valid s w hs
end Go.Proofs.YtkefhhnbkhijgaaDoor
