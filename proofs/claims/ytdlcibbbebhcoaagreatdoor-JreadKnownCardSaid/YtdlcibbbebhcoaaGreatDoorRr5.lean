/- The document's reader of a text: a number. -/
import Derived.Test.YtdlcibbbebhcoaaGreatDoorRr4
import Derived.Test.YtdlcibbbebhcoaaGreatDoorSufL
/-! ### The document's reader of a text: a number. -/
namespace Go.Proofs.YtdlcibbbebhcoaaGreatDoor
open Go.RowKit

def digX : RX → RX
  | .ok l => if digsOf l = [] then .error (l, 70) else .ok (digsEnd l)
  | .error b => .error b
def whX (l : List UInt8) : RX :=
  match opt1 48 l with
  | (true, r) => .ok r
  | (false, _) => digX (.ok l)
def fracX : RX → RX × Bool
  | .error b => (.error b, true)
  | .ok l => match opt1 46 l with
    | (true, r) => (digX (.ok r), false)
    | (false, _) => (.ok l, true)
def expX : RX → RX × Bool
  | .error b => (.error b, true)
  | .ok l => match opt2 101 69 l with
    | (true, r) => (digX (.ok (opt2 43 45 r).2), false)
    | (false, _) => (.ok l, true)
theorem ropt1_at (x : UInt8) (r : List UInt8) : opt1 x (x :: r) = (true, r) := by simp [opt1]
theorem ropt1_no {x : UInt8} {l : List UInt8} (h : isX x (.ok l) = false) : opt1 x l = (false, l) := by
  cases l with
  | nil => rfl
  | cons d r =>
    have : ¬ d = x := of_decide_eq_false h
    simp only [opt1, if_neg this]
theorem ropt2_a (x y : UInt8) (r : List UInt8) : opt2 x y (x :: r) = (true, r) := by simp [opt2]
theorem ropt2_b (x y : UInt8) (r : List UInt8) : opt2 x y (y :: r) = (true, r) := by simp [opt2]
theorem ropt2_no {x y : UInt8} {l : List UInt8} (h : isX x (.ok l) = false) (h2 : isX y (.ok l) = false) : opt2 x y l = (false, l) := by
  cases l with
  | nil => rfl
  | cons d r =>
    have a : ¬ d = x := of_decide_eq_false h
    have b : ¬ d = y := of_decide_eq_false h2
    simp only [opt2]
    rw [if_neg (by rintro (e | e); exact a e; exact b e)]
theorem rfrac_no {X : RX} (h : isX 46 X = false) : fracX X = (X, true) := by
  cases X with
  | error b => rfl
  | ok l => simp only [fracX, ropt1_no h]
theorem rfrac_yes (r : List UInt8) : fracX (.ok (46 :: r)) = (digX (.ok r), false) := by simp only [fracX, ropt1_at]
theorem rexp_no {X : RX} (h : isX 101 X = false) (h2 : isX 69 X = false) : expX X = (X, true) := by
  cases X with
  | error b => rfl
  | ok l => simp only [expX, ropt2_no h h2]
theorem rexp_yes {c : UInt8} (h : c = 101 ∨ c = 69) (r : List UInt8) : expX (.ok (c :: r)) = (digX (.ok (opt2 43 45 r).2), false) := by
  rcases h with rfl | rfl
  · simp only [expX, ropt2_a]
  · simp only [expX, ropt2_b]
theorem digX_eq (l : List UInt8) : digX (.ok l) = match digs1 l with | .error b => .error b | .ok (_, r) => .ok r := by
  simp only [digX, digs1]
  split <;> rfl
theorem rdigs_split (l : List UInt8) : l = digsOf l ++ digsEnd l ∧ ∀ d ∈ digsOf l, isDig d = true := by
  induction l with
  | nil => exact ⟨rfl, by simp [digsOf]⟩
  | cons c r ih =>
    cases h : isDig c with
    | true =>
      simp only [digsOf, digsEnd, h, if_true]
      refine ⟨by rw [List.cons_append, ← ih.1], fun d hd => ?_⟩
      rcases List.mem_cons.1 hd with rfl | hd
      · exact h
      · exact ih.2 d hd
    | false =>
      simp [digsOf, digsEnd, h]
/-- the number, of its pieces -/
theorem num_spec {l l1 : List UInt8} {X2 X3 X4 : RX} {w3 w4 : Bool} (h1 : (opt1 45 l).2 = l1) (h2 : whX l1 = X2) (h3 : fracX X2 = (X3, w3)) (h4 : expX X3 = (X4, w4)) :
    (∀ b, X4 = .error b → numV l = .error b) ∧
    (∀ l4, X4 = .ok l4 → ∃ ds l2, X2 = .ok l2 ∧ l1 = ds ++ l2 ∧ (∀ d ∈ ds, isDig d = true) ∧ ((w3 && w4) = false → numV l = .error (l, 73)) ∧
      ((w3 && w4) = true → numV l = if signed (opt1 45 l).1 (decV ds) < -9223372036854775808 ∨ 9223372036854775807 < signed (opt1 45 l).1 (decV ds) then .error (l, 73) else .ok (signed (opt1 45 l).1 (decV ds), l4))) := by
  have hw : (∀ b, X2 = .error b → wholeV l1 = .error b) ∧ ∀ l2, X2 = .ok l2 → ∃ ds, wholeV l1 = .ok (ds, l2) ∧ l1 = ds ++ l2 ∧ ∀ d ∈ ds, isDig d = true := by
    subst h2
    unfold whX wholeV
    cases l1 with
    | nil =>
      simp only [opt1]
      refine ⟨fun b h => ?_, fun l2 h => ?_⟩
      · injection h with h; subst h; rfl
      · cases h
    | cons c r =>
      by_cases hc : c = 48
      · subst hc
        simp only [opt1, if_true]
        refine ⟨fun b h => by (cases h), fun l2 h => ?_⟩
        injection h with h
        subst h
        refine ⟨[48], rfl, rfl, ?_⟩
        intro d hd
        rw [List.mem_singleton] at hd
        subst hd
        decide
      · simp only [opt1, if_neg hc]
        have hs := rdigs_split (c :: r)
        simp only [digX, digs1]
        split
        · refine ⟨fun b h => ?_, fun l2 h => by (cases h)⟩
          injection h with h; rw [h]
        · refine ⟨fun b h => by (cases h), fun l2 h => ?_⟩
          injection h with h
          subst h
          exact ⟨_, rfl, hs.1, hs.2⟩
  have hf : (∀ l2, X2 = .ok l2 → (∀ b, X3 = .error b → fracV l2 = .error b) ∧ ∀ l3, X3 = .ok l3 → fracV l2 = .ok (!w3, l3)) ∧ ∀ b, X2 = .error b → X3 = .error b := by
    refine ⟨fun l2 e => ?_, fun b e => ?_⟩
    · subst e
      simp only [fracX] at h3
      unfold fracV
      cases ho : opt1 46 l2 with
      | mk f r =>
        rw [ho] at h3
        cases f with
        | true =>
          simp only [digX_eq, Prod.mk.injEq] at h3 ⊢
          obtain ⟨h3, h5⟩ := h3
          subst h5
          cases hd : digs1 r with
          | error b =>
            rw [hd] at h3
            subst h3
            exact ⟨fun b' h => by injection h with h; rw [h], fun l3 h => by (cases h)⟩
          | ok x =>
            obtain ⟨x1, x2⟩ := x
            rw [hd] at h3
            subst h3
            exact ⟨fun b' h => by (cases h), fun l3 h => by injection h with h; subst h; rfl⟩
        | false =>
          simp only [Prod.mk.injEq] at h3 ⊢
          obtain ⟨h3, h5⟩ := h3
          subst h5 h3
          exact ⟨fun b' h => by (cases h), fun l3 h => by injection h with h; subst h; rfl⟩
    · subst e
      simp only [fracX, Prod.mk.injEq] at h3
      exact h3.1.symm
  have he : (∀ l3, X3 = .ok l3 → (∀ b, X4 = .error b → expV l3 = .error b) ∧ ∀ l4, X4 = .ok l4 → expV l3 = .ok (!w4, l4)) ∧ ∀ b, X3 = .error b → X4 = .error b := by
    refine ⟨fun l2 e => ?_, fun b e => ?_⟩
    · subst e
      simp only [expX] at h4
      unfold expV
      cases ho : opt2 101 69 l2 with
      | mk f r =>
        rw [ho] at h4
        cases f with
        | true =>
          simp only [digX_eq, Prod.mk.injEq] at h4 ⊢
          obtain ⟨h4, h5⟩ := h4
          subst h5
          cases hd : digs1 (opt2 43 45 r).2 with
          | error b =>
            rw [hd] at h4
            subst h4
            exact ⟨fun b' h => by injection h with h; rw [h], fun l3 h => by (cases h)⟩
          | ok x =>
            obtain ⟨x1, x2⟩ := x
            rw [hd] at h4
            subst h4
            exact ⟨fun b' h => by (cases h), fun l3 h => by injection h with h; subst h; rfl⟩
        | false =>
          simp only [Prod.mk.injEq] at h4 ⊢
          obtain ⟨h4, h5⟩ := h4
          subst h5 h4
          exact ⟨fun b' h => by (cases h), fun l3 h => by injection h with h; subst h; rfl⟩
    · subst e
      simp only [expX, Prod.mk.injEq] at h4
      exact h4.1.symm
  unfold numV
  rw [h1]
  cases X2 with
  | error b =>
    have e3 := hf.2 b rfl
    have e4 := he.2 b e3
    rw [hw.1 b rfl]
    exact ⟨fun b' h => by rw [e4] at h; injection h with h; rw [h], fun l4 h => by rw [e4] at h; cases h⟩
  | ok l2 =>
    obtain ⟨ds, d1, d2, d3⟩ := hw.2 l2 rfl
    rw [d1]
    simp only
    cases X3 with
    | error b =>
      have e4 := he.2 b rfl
      rw [(hf.1 l2 rfl).1 b rfl]
      exact ⟨fun b' h => by rw [e4] at h; injection h with h; rw [h], fun l4 h => by rw [e4] at h; cases h⟩
    | ok l3 =>
      rw [(hf.1 l2 rfl).2 l3 rfl]
      simp only
      cases X4 with
      | error b =>
        rw [(he.1 l3 rfl).1 b rfl]
        exact ⟨fun b' h => by injection h with h; rw [h], fun l4 h => by (cases h)⟩
      | ok l4 =>
        rw [(he.1 l3 rfl).2 l4 rfl]
        simp only
        refine ⟨fun b' h => by (cases h), fun l4' h => ?_⟩
        injection h with h
        subst h
        refine ⟨ds, l2, rfl, d2, d3, fun hw => ?_, fun hw => ?_⟩
        · rw [if_pos (by cases w3 <;> cases w4 <;> simp_all)]
        · have h3' : w3 = true := by cases w3 <;> simp_all
          have h4' : w4 = true := by cases w4 <;> simp_all
          subst h3' h4'
          simp
end Go.Proofs.YtdlcibbbebhcoaaGreatDoor
