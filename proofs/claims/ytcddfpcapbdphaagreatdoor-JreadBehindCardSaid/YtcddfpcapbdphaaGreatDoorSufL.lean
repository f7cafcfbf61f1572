/- What is left of a text is its end: plain laws. -/
import Derived.Test.YtcddfpcapbdphaaGreatDoorMachL
namespace Go.Proofs.YtcddfpcapbdphaaGreatDoor

theorem hex1_suf {l r : List UInt8} {k : Nat} (h : hex1 l = .ok (k, r)) : r <:+ l := by
  cases l with
  | nil => cases h
  | cons c l =>
    simp only [hex1] at h
    split at h
    · cases h
    · injection h with h
      injection h with h1 h2
      subst h1 h2
      exact List.suffix_cons ..
theorem half4_suf {s : Bool} {l r : List UInt8} {k : Nat} (h : half4 s l = .ok (k, r)) : r <:+ l := by
  unfold half4 at h
  split at h
  · cases h
  rename_i a l1 h1
  split at h
  · cases h
  split at h
  · cases h
  rename_i b l2 h2
  split at h
  · cases h
  split at h
  · cases h
  rename_i c l3 h3
  split at h
  · cases h
  rename_i d l4 h4
  injection h with h
  injection h with e1 e2
  subst e1 e2
  exact (((hex1_suf h4).trans (hex1_suf h3)).trans (hex1_suf h2)).trans (hex1_suf h1)
theorem want1_suf {x : UInt8} {l r : List UInt8} (h : want1 x l = .ok r) : r <:+ l := by
  cases l with
  | nil => cases h
  | cons c l =>
    simp only [want1] at h
    split at h
    · injection h with h
      subst h
      exact List.suffix_cons ..
    · cases h
theorem escV_suf {l r t : List UInt8} (h : escV l = .ok (t, r)) : r <:+ l := by
  cases l with
  | nil => cases h
  | cons c l =>
    simp only [escV] at h
    split at h
    · injection h with h; injection h with _ h; subst h; exact List.suffix_cons ..
    split at h
    · injection h with h; injection h with _ h; subst h; exact List.suffix_cons ..
    split at h
    · cases h
    split at h
    · cases h
    rename_i n r1 h1
    have a1 := half4_suf h1
    split at h
    · split at h
      · cases h
      rename_i r2 h2
      have a2 := want1_suf h2
      split at h
      · cases h
      rename_i r3 h3
      have a3 := want1_suf h3
      split at h
      · cases h
      rename_i k r4 h4
      have a4 := half4_suf h4
      injection h with h; injection h with _ h; subst h
      exact (((a4.trans a3).trans a2).trans a1).trans (List.suffix_cons ..)
    · injection h with h; injection h with _ h; subst h
      exact a1.trans (List.suffix_cons ..)
theorem pieceV_suf {l r t : List UInt8} (h : pieceV l = .ok (t, r)) : r <:+ l := by
  cases l with
  | nil => cases h
  | cons c l =>
    simp only [pieceV] at h
    split at h
    · exact (escV_suf h).trans (List.suffix_cons ..)
    · simp only [plainV] at h
      split at h
      · cases h
      split at h
      · injection h with h; injection h with _ h; subst h
        exact List.drop_suffix ..
      · split at h <;> cases h
theorem unqB_suf : ∀ (f : Nat) (l r t : List UInt8), unqB f l = .ok (t, r) → r <:+ l
  | 0, _, _, _, h => by cases h
  | f + 1, [], _, _, h => by cases h
  | f + 1, c :: l, r, t, h => by
    simp only [unqB] at h
    split at h
    · injection h with h; injection h with _ h; subst h; exact List.suffix_cons ..
    split at h
    · cases h
    rename_i t1 r1 h1
    split at h
    · cases h
    rename_i u r2 h2
    have a1 := pieceV_suf h1
    have a2 := unqB_suf f r1 r2 u h2
    injection h with h; injection h with _ h; subst h
    exact a2.trans a1
theorem unqV_suf {l r t : List UInt8} (h : unqV l = .ok (t, r)) : r <:+ l := by
  cases l with
  | nil => cases h
  | cons c l =>
    simp only [unqV] at h
    split at h
    · cases h
    · exact (unqB_suf _ _ _ _ h).trans (List.suffix_cons ..)
/-! ### what is wrong has a number -/
theorem hex1_err {l : List UInt8} {c : Int} (h : hex1 l = .error c) : c = 3 ∨ c = 41 := by
  cases l with
  | nil => injection h with h; exact .inl h.symm
  | cons c l =>
    simp only [hex1] at h
    split at h
    · injection h with h; exact .inr h.symm
    · cases h
theorem half4_err {s : Bool} {l : List UInt8} {c : Int} (h : half4 s l = .error c) : c = 3 ∨ c = 41 := by
  unfold half4 at h
  split at h
  · rename_i h1
    injection h with h; subst h; exact hex1_err h1
  split at h
  · injection h with h; exact .inr h.symm
  split at h
  · rename_i h1
    injection h with h; subst h; exact hex1_err h1
  split at h
  · injection h with h; exact .inr h.symm
  split at h
  · rename_i h1
    injection h with h; subst h; exact hex1_err h1
  split at h
  · rename_i h1
    injection h with h; subst h; exact hex1_err h1
  · cases h
theorem want1_err {x : UInt8} {l : List UInt8} {c : Int} (h : want1 x l = .error c) : c = 3 ∨ c = 41 := by
  cases l with
  | nil => injection h with h; exact .inl h.symm
  | cons d l =>
    simp only [want1] at h
    split at h
    · cases h
    · injection h with h; exact .inr h.symm
theorem escV_err {l : List UInt8} {c : Int} (h : escV l = .error c) : c = 3 ∨ c = 41 := by
  cases l with
  | nil => injection h with h; exact .inl h.symm
  | cons d l =>
    simp only [escV] at h
    split at h
    · cases h
    split at h
    · cases h
    split at h
    · injection h with h; exact .inr h.symm
    split at h
    · rename_i h1
      injection h with h; subst h; exact half4_err h1
    split at h
    · split at h
      · rename_i h1
        injection h with h; subst h; exact want1_err h1
      split at h
      · rename_i h1
        injection h with h; subst h; exact want1_err h1
      split at h
      · rename_i h1
        injection h with h; subst h; exact half4_err h1
      · cases h
    · cases h
theorem pieceV_err {l : List UInt8} {c : Int} (h : pieceV l = .error c) : c = 3 ∨ c = 41 ∨ c = 40 := by
  cases l with
  | nil => injection h with h; exact .inl h.symm
  | cons d l =>
    simp only [pieceV] at h
    split at h
    · rcases escV_err h with h | h
      · exact .inl h
      · exact .inr (.inl h)
    · simp only [plainV] at h
      split at h
      · injection h with h; exact .inr (.inl h.symm)
      split at h
      · cases h
      split at h
      · injection h with h; exact .inl h.symm
      · injection h with h; exact .inr (.inr h.symm)
theorem unqB_err : ∀ (f : Nat) (l : List UInt8) (c : Int), unqB f l = .error c → c = 3 ∨ c = 41 ∨ c = 40
  | 0, _, _, h => by injection h with h; exact .inl h.symm
  | f + 1, [], _, h => by injection h with h; exact .inl h.symm
  | f + 1, d :: l, c, h => by
    simp only [unqB] at h
    split at h
    · cases h
    split at h
    · rename_i h1
      injection h with h; subst h; exact pieceV_err h1
    split at h
    · rename_i h1
      injection h with h; subst h; exact unqB_err f _ _ h1
    · cases h
theorem unqV_err {l : List UInt8} {c : Int} (h : unqV l = .error c) : c = 3 ∨ c = 41 ∨ c = 40 := by
  cases l with
  | nil => injection h with h; exact .inl h.symm
  | cons d l =>
    simp only [unqV] at h
    split at h
    · injection h with h; exact .inr (.inl h.symm)
    · exact unqB_err _ _ _ h
end Go.Proofs.YtcddfpcapbdphaaGreatDoor

