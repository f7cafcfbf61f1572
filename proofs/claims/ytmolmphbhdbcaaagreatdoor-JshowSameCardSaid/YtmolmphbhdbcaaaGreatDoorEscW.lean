/- utf.short: the map of the runes with an escape of two bytes. -/
import Derived.Test.YtmolmphbhdbcaaaGreatDoorQuoteL
import Derived.Maps.OwnSet
import Derived.Maps.RangeWalk
import Derived.Test.YtmolmphbhdbcaaaGreatDoorRdW
/-! ### utf.short: the map of the runes with an escape of two bytes. -/
namespace Go.Proofs.YtmolmphbhdbcaaaGreatDoor
open Go.RowKit

/-- the runes with an escape of two bytes -/
def dTwo : DataW Unit := .map [(.int .i32 8, .lit (.int .u8 98)), (.int .i32 9, .lit (.int .u8 116)), (.int .i32 10, .lit (.int .u8 110)), (.int .i32 12, .lit (.int .u8 102)), (.int .i32 13, .lit (.int .u8 114)), (.int .i32 34, .lit (.int .u8 34)), (.int .i32 92, .lit (.int .u8 92))]
theorem dTwo_has (r : Nat) : Maps.has dTwo (.int .i32 r) = (twoOf r).isSome := by
  unfold dTwo twoOf
  simp only [Maps.has, List.any_cons, List.any_nil, Lit.sameKey]
  repeat' split
  all_goals first | (subst_vars; rfl) | skip
  simp
  omega
theorem dTwo_at (r c : Nat) (h : twoOf r = some c) : dTwo.atKey (.int .i32 r) (.lit (.int .u8 0)) = .lit (.int .u8 c) := by
  unfold twoOf at h
  repeat' split at h
  all_goals first | (injection h with h; subst_vars; rfl) | cases h
abbrev MapTwo (b : Nat) (w : World) : Prop := w.ownsMap (H := Unit) Tryz.prog 21 (plainElem Tryz.prog 5) b 7 dTwo
theorem MapTwo.same {b : Nat} {w w' : World} (h : MapTwo b w) (e : ∀ o, w.heap[b]? = some o → w'.heap[b]? = some o) : MapTwo b w' := by
  obtain ⟨es, clock, hb, F, hs, hD⟩ := h
  exact ⟨es, clock, e _ hb, F, hs, hD⟩
set_option maxRecDepth 100000 in
set_option maxHeartbeats 1000000 in
theorem short_run (w : World) : Calls Tryz.prog 88 #[] w fun e w' => ∃ b, e = .returned (.map (some b)) ∧ w.heap.size ≤ b ∧ b < w'.heap.size ∧ MapTwo b w' ∧ Old w w' := by
  have hmm := @run_makeMap Tryz.prog
  have K := Maps.int_keyed Tryz.underlying21
  have O0 : Old w (w.alloc (.map #[] 0)) := Old.alloc (Old.refl _) _
  have own0 := World.ownsMap_made (H := Unit) w Tryz.prog 21 (plainElem Tryz.prog 5)
  obtain ⟨w1, r1, own1, g1⟩ := own0.update K Tryz.underlying139 (by unfold maxLen; omega) (key := .int .i32 34) (Maps.keyOf_int_mk Tryz.underlying21 (a := 34) (by decide)) (val := .int .u8 34) (plainElem_int Tryz.underlying5 (a := 34) (by decide))
  obtain ⟨w2, r2, own2, g2⟩ := own1.update K Tryz.underlying139 (by unfold maxLen; omega) (key := .int .i32 92) (Maps.keyOf_int_mk Tryz.underlying21 (a := 92) (by decide)) (val := .int .u8 92) (plainElem_int Tryz.underlying5 (a := 92) (by decide))
  obtain ⟨w3, r3, own3, g3⟩ := own2.update K Tryz.underlying139 (by unfold maxLen; omega) (key := .int .i32 8) (Maps.keyOf_int_mk Tryz.underlying21 (a := 8) (by decide)) (val := .int .u8 98) (plainElem_int Tryz.underlying5 (a := 98) (by decide))
  obtain ⟨w4, r4, own4, g4⟩ := own3.update K Tryz.underlying139 (by unfold maxLen; omega) (key := .int .i32 12) (Maps.keyOf_int_mk Tryz.underlying21 (a := 12) (by decide)) (val := .int .u8 102) (plainElem_int Tryz.underlying5 (a := 102) (by decide))
  obtain ⟨w5, r5, own5, g5⟩ := own4.update K Tryz.underlying139 (by unfold maxLen; omega) (key := .int .i32 10) (Maps.keyOf_int_mk Tryz.underlying21 (a := 10) (by decide)) (val := .int .u8 110) (plainElem_int Tryz.underlying5 (a := 110) (by decide))
  obtain ⟨w6, r6, own6, g6⟩ := own5.update K Tryz.underlying139 (by unfold maxLen; omega) (key := .int .i32 13) (Maps.keyOf_int_mk Tryz.underlying21 (a := 13) (by decide)) (val := .int .u8 114) (plainElem_int Tryz.underlying5 (a := 114) (by decide))
  obtain ⟨w7, r7, own7, g7⟩ := own6.update K Tryz.underlying139 (by unfold maxLen; omega) (key := .int .i32 9) (Maps.keyOf_int_mk Tryz.underlying21 (a := 9) (by decide)) (val := .int .u8 116) (plainElem_int Tryz.underlying5 (a := 116) (by decide))
  have st : ∀ {a b : World}, Old w a → a.grownBy b (some w.heap.size) → Old w b := fun ho hg => Below.grown ho hg ho.size fun k hk => by cases hk; exact Nat.le_refl _
  have O7 := hide (st (st (st (st (st (st (st O0 g1) g2) g3) g4) g5) g6) g7)
  have M7 := hide (show MapTwo w.heap.size w7 from own7)
  have L7 := hide (show w.heap.size < w7.heap.size from by obtain ⟨es, cl, hb, _⟩ := own7; exact (Array.getElem?_eq_some_iff.1 hb).1)
  clear own0 own1 own2 own3 own4 own5 own6 own7 g1 g2 g3 g4 g5 g6 g7 O0 st K
  go_enter Tryz.func88, Tryz.ntmps88
  go_wp2_with fail
  go_ret
  exact ⟨_, rfl, Nat.le_refl _, L7.out, M7.out, O7.out⟩
/-- what stands in the map -/
theorem dTwo_pair {x c : Int} (h : ∀ zd, dTwo.atKey (.int .i32 x) zd = .lit (.int .u8 c)) : (x = 8 ∧ c = 98) ∨ (x = 9 ∧ c = 116) ∨ (x = 10 ∧ c = 110) ∨ (x = 12 ∧ c = 102) ∨ (x = 13 ∧ c = 114) ∨ (x = 34 ∧ c = 34) ∨ (x = 92 ∧ c = 92) := by
  have key : ∀ es : List (Lit × DataW Unit), (DataW.map es).atKey (.int .i32 x) .nil = .lit (.int .u8 c) → ∃ p ∈ es, p.1.sameKey (.int .i32 x) = true ∧ p.2 = .lit (.int .u8 c) := by
    intro es he
    simp only [DataW.atKey] at he
    split at he
    · rename_i p hp
      exact ⟨p, List.mem_of_find?_eq_some hp, by have := List.find?_some hp; simpa using this, he⟩
    · cases he
  obtain ⟨p, hp, h1, h2⟩ := key _ (h .nil)
  simp only [List.mem_cons, List.not_mem_nil, or_false] at hp
  rcases hp with rfl | rfl | rfl | rfl | rfl | rfl | rfl <;> (simp [Lit.sameKey] at h1; injection h2 with h2; injection h2 with _ h2; omega)
end Go.Proofs.YtmolmphbhdbcaaaGreatDoor

/-! ### The reader of a literal: escape. -/
namespace Go.Proofs.YtmolmphbhdbcaaaGreatDoor
open Go.RowKit

def escR (l : List UInt8) : RSt := match escV l with | .ok (_, r) => .ok r | .error c => .error c
def escT (l : List UInt8) : List UInt8 := match escV l with | .ok (t, _) => t | .error _ => []
/-- behind the letter of an escape of six bytes, or of none: what is left, and the rune's number -/
def uniR (σ : RSt) : RSt := if isHigh (halfN false σ) = true then halfR true (wantR 117 (wantR 92 (halfR false σ))) else halfR false σ
def uniN (σ : RSt) : Nat := if isHigh (halfN false σ) = true then pairOf (halfN false σ) (halfN true (wantR 117 (wantR 92 (halfR false σ)))) else halfN false σ
theorem wantR_err (x : UInt8) (c : Int) : wantR x (.error c) = .error c := rfl
theorem uniR_err (c : Int) : uniR (.error c) = .error c := by
  unfold uniR
  rw [halfR_err, wantR_err, wantR_err, halfR_err]
  split <;> rfl
/-- .. what an escape of six bytes comes to -/
theorem esc_uni {c : UInt8} {r : List UInt8} (h1 : c ≠ 47) (h2 : shortV c = none) : escR (c :: r) = uniR (if c = 117 then .ok r else .error 41) ∧ ∀ q, escR (c :: r) = .ok q → escT (c :: r) = encL (uniN (if c = 117 then .ok r else .error 41)) := by
  unfold escR escT
  simp only [escV, if_neg h1, h2]
  by_cases hu : c = 117
  · rw [if_neg (fun h => h hu), if_pos hu]
    have hh := half_eq false r
    cases h3 : half4 false r with
    | error e =>
      rw [h3] at hh
      simp only at hh
      refine ⟨?_, fun q hq => by simp at hq⟩
      unfold uniR
      rw [hh, wantR_err, wantR_err, halfR_err]
      exact (ite_self _).symm
    | ok x =>
      obtain ⟨n, r1⟩ := x
      rw [h3] at hh
      obtain ⟨e1, e2⟩ := hh
      unfold uniR uniN
      rw [e1, e2]
      by_cases hn : isHigh n = true
      · simp only [if_pos hn]
        cases h4 : want1 92 r1 with
        | error e =>
          have : wantR 92 (.ok r1) = .error e := h4
          simp only [this, wantR_err, halfR_err]
          exact ⟨trivial, fun q hq => by cases hq⟩
        | ok r2 =>
          have w1 : wantR 92 (.ok r1) = .ok r2 := h4
          simp only [w1]
          cases h5 : want1 117 r2 with
          | error e =>
            have : wantR 117 (.ok r2) = .error e := h5
            simp only [this, halfR_err]
            exact ⟨trivial, fun q hq => by cases hq⟩
          | ok r3 =>
            have w2 : wantR 117 (.ok r2) = .ok r3 := h5
            simp only [w2]
            have hk := half_eq true r3
            cases h6 : half4 true r3 with
            | error e =>
              rw [h6] at hk
              simp only at hk
              simp only [hk]
              exact ⟨trivial, fun q hq => by cases hq⟩
            | ok y =>
              obtain ⟨k, r4⟩ := y
              rw [h6] at hk
              obtain ⟨f1, f2⟩ := hk
              simp only [f1, f2]
              exact ⟨trivial, fun q _ => trivial⟩
      · simp only [if_neg hn]
        exact ⟨trivial, fun q _ => trivial⟩
  · rw [if_pos hu, if_neg hu]
    exact ⟨(uniR_err 41).symm, fun q hq => by cases hq⟩
theorem short_pair {c : UInt8} {k : Nat} (h : shortV c = some k) : ((k : Int) = 8 ∧ (c.toNat : Int) = 98) ∨ ((k : Int) = 9 ∧ (c.toNat : Int) = 116) ∨ ((k : Int) = 10 ∧ (c.toNat : Int) = 110) ∨ ((k : Int) = 12 ∧ (c.toNat : Int) = 102) ∨ ((k : Int) = 13 ∧ (c.toNat : Int) = 114) ∨ ((k : Int) = 34 ∧ (c.toNat : Int) = 34) ∨ ((k : Int) = 92 ∧ (c.toNat : Int) = 92) := by
  unfold shortV at h
  repeat' split at h
  all_goals first | (cases h; done) | skip
  all_goals (injection h with h; subst_vars; decide)
theorem short_none {c : UInt8} (h : shortV c = none) {x y : Int} (hp : (x = 8 ∧ y = 98) ∨ (x = 9 ∧ y = 116) ∨ (x = 10 ∧ y = 110) ∨ (x = 12 ∧ y = 102) ∨ (x = 13 ∧ y = 114) ∨ (x = 34 ∧ y = 34) ∨ (x = 92 ∧ y = 92)) : y ≠ (c.toNat : Int) := by
  intro e
  have hc : c = UInt8.ofNat y.toNat := by
    rw [e]
    simp
  rcases hp with ⟨_, rfl⟩ | ⟨_, rfl⟩ | ⟨_, rfl⟩ | ⟨_, rfl⟩ | ⟨_, rfl⟩ | ⟨_, rfl⟩ | ⟨_, rfl⟩ <;> (rw [hc] at h; exact absurd h (by decide))

/-- an escape that is not of two bytes, whatever its letter -/
theorem esc_all {l : List UInt8} {c : UInt8} {σ : RSt} (hc : takeV (.ok l) = c) (hσ : takeR (.ok l) = σ) (h1 : c ≠ 47) (h2 : shortV c = none) :
    escR l = uniR (if c = 117 then σ else failR 41 σ) ∧ (∀ q, escR l = .ok q → escT l = encL (uniN (if c = 117 then σ else failR 41 σ))) ∧ ∀ e, escR l = .error e → escT l = [] := by
  refine ⟨?_, ?_, fun e he => ?_⟩
  · cases l with
    | nil =>
      simp only [takeV, takeR] at hc hσ
      subst hc hσ
      rw [if_neg (by decide), failR_err, uniR_err]
      rfl
    | cons x r =>
      simp only [takeV, takeR] at hc hσ
      subst hc hσ
      exact (esc_uni h1 h2).1
  · cases l with
    | nil => intro q hq; simp [escR, escV] at hq
    | cons x r =>
      simp only [takeV, takeR] at hc hσ
      subst hc hσ
      exact (esc_uni h1 h2).2
  · unfold escR at he
    unfold escT
    cases hx : escV l with
    | error e => rfl
    | ok x =>
      obtain ⟨t, r⟩ := x
      rw [hx] at he
      cases he
theorem pairOf_int {n k : Nat} (h : isHigh n = true) (hk : k < 65536) : ((pairOf n k : Nat) : Int) = 65536 + ((n : Int) - 55296) * 1024 + (k : Int) - 56320 := by
  unfold isHigh at h
  simp only [Bool.and_eq_true, decide_eq_true_eq] at h
  unfold pairOf
  omega
theorem halfN_lt (b : Bool) (σ : RSt) : halfN b σ < 65536 := by
  unfold halfN
  have h1 := digV_lt σ
  have h2 := digV_lt (half2R b σ)
  have h3 := digV_lt (half3R b σ)
  have h4 := digV_lt (digR (half3R b σ))
  omega
theorem halves_run (rb : Nat) (s : ByteArray) (second : Bool) (σ τ : RSt) (n : Nat) (w : World) (hs : s.size ≤ 1073741824) (h : Rd rb s σ w) (hn : halfN second σ = n) (hτ : halfR second σ = τ) :
    Calls Tryz.prog 99 #[.pointer (some ⟨rb, 0, none⟩), .bool second] w fun e w' => e = .returned (.int .i32 n) ∧ Rd rb s τ w' ∧ One rb w w' := by
  subst hn hτ
  exact half_run rb s second σ w hs h
/-- an escape of two bytes -/
theorem esc_short {l : List UInt8} {c : UInt8} {σ : RSt} {k : Nat} (hc : takeV (.ok l) = c) (hσ : takeR (.ok l) = σ) (h1 : c ≠ 47) (h2 : shortV c = some k) : escR l = σ ∧ escT l = encL k ∧ Maps.has dTwo (.int .i32 k) = true := by
  have hk : Maps.has dTwo (.int .i32 (k : Int)) = true := by
    rw [dTwo_has]
    unfold shortV at h2
    repeat' split at h2
    all_goals first | (cases h2; done) | skip
    all_goals (injection h2 with h2; subst h2; rfl)
  cases l with
  | nil =>
    simp only [takeV] at hc
    subst hc
    rw [show shortV 0 = none from by decide] at h2
    cases h2
  | cons x r =>
    simp only [takeV, takeR] at hc hσ
    subst hc hσ
    exact ⟨by simp [escR, escV, h1, h2], by simp [escT, escV, h1, h2], hk⟩
theorem short_same {c : UInt8} {k : Nat} {x y : Int} (h : ((k : Int) = 8 ∧ (c.toNat : Int) = 98) ∨ ((k : Int) = 9 ∧ (c.toNat : Int) = 116) ∨ ((k : Int) = 10 ∧ (c.toNat : Int) = 110) ∨ ((k : Int) = 12 ∧ (c.toNat : Int) = 102) ∨ ((k : Int) = 13 ∧ (c.toNat : Int) = 114) ∨ ((k : Int) = 34 ∧ (c.toNat : Int) = 34) ∨ ((k : Int) = 92 ∧ (c.toNat : Int) = 92))
    (hp : (x = 8 ∧ y = 98) ∨ (x = 9 ∧ y = 116) ∨ (x = 10 ∧ y = 110) ∨ (x = 12 ∧ y = 102) ∨ (x = 13 ∧ y = 114) ∨ (x = 34 ∧ y = 34) ∨ (x = 92 ∧ y = 92)) : (y = (c.toNat : Int) → x = k) ∧ (y ≠ (c.toNat : Int) → x ≠ k) := by
  constructor
  · intro e
    rcases h with ⟨a, b⟩ | ⟨a, b⟩ | ⟨a, b⟩ | ⟨a, b⟩ | ⟨a, b⟩ | ⟨a, b⟩ | ⟨a, b⟩ <;> rcases hp with ⟨a', b'⟩ | ⟨a', b'⟩ | ⟨a', b'⟩ | ⟨a', b'⟩ | ⟨a', b'⟩ | ⟨a', b'⟩ | ⟨a', b'⟩ <;> omega
  · intro e
    rcases h with ⟨a, b⟩ | ⟨a, b⟩ | ⟨a, b⟩ | ⟨a, b⟩ | ⟨a, b⟩ | ⟨a, b⟩ | ⟨a, b⟩ <;> rcases hp with ⟨a', b'⟩ | ⟨a', b'⟩ | ⟨a', b'⟩ | ⟨a', b'⟩ | ⟨a', b'⟩ | ⟨a', b'⟩ | ⟨a', b'⟩ <;> omega
/-- what escape hands back -/
def EscE (rb : Nat) (s : ByteArray) (l : List UInt8) (w : World) (e : Ending) (w' : World) : Prop := e = .returned (.string (bT (escT l))) ∧ Rd rb s (escR l) w' ∧ One rb w w'
theorem bT_nil : bT [] = ⟨#[]⟩ := rfl
set_option maxRecDepth 100000 in
set_option maxHeartbeats 4000000 in
theorem escape_run (rb : Nat) (s : ByteArray) (l : List UInt8) (w : World) (hs : s.size ≤ 1073741824) (h : Rd rb s (.ok l) w) :
    Calls Tryz.prog 78 #[.pointer (some ⟨rb, 0, none⟩)] w (EscE rb s l w) := by
  obtain ⟨c, hc⟩ : ∃ c, Hid (takeV (.ok l) = c) := ⟨_, hide rfl⟩
  obtain ⟨σ, hσ⟩ : ∃ x, Hid (takeR (.ok l) = x) := ⟨_, hide rfl⟩
  have CT := hide (takes_run rb s (.ok l) c w hs h hc.out)
  rw [hσ.out] at CT
  have hrb := hide (World.block_lt_of_cell? w ⟨rb, 0, none⟩ h.text)
  clear h
  by_cases h47 : c = 47
  · have FIN := hide (show escR l = σ ∧ escT l = [47] by
      cases l with
      | nil => have := hc.out; simp only [takeV] at this; rw [← this] at h47; cases h47
      | cons x r =>
        have e1 := hc.out
        have e2 := hσ.out
        simp only [takeV, takeR] at e1 e2
        subst e1 e2 h47
        simp [escR, escT, escV])
    have hq : ((c.toNat : Int) == 47) = true := by rw [h47]; rfl
    clear h47
    go_enter Tryz.func78, Tryz.ntmps78
    go_wp2_with fail
    refine CT.out.mono ?_
    rintro e w1 ⟨rfl, r1, o1⟩
    have R1 := hide r1
    have O1 := hide o1
    clear r1 o1
    go_wp2_with fail
    go_ret
    exact ⟨by rw [FIN.out.2]; rfl, by rw [FIN.out.1]; exact R1.out, O1.out⟩
  · have hq : ((c.toNat : Int) == 47) = false := by
      have : c.toNat ≠ 47 := fun e => h47 (UInt8.toNat_inj.1 e)
      simp; omega
    go_enter Tryz.func78, Tryz.ntmps78
    go_wp2_with fail
    refine CT.out.mono ?_
    rintro e w1 ⟨rfl, r1, o1⟩
    have R1 := hide r1
    have O1 := hide o1
    have z1 := o1.size
    clear r1 o1
    go_wp2_with fail
    refine (short_run w1).mono ?_
    rintro e w2 ⟨b, rfl, hb, hb2, M2, o2⟩
    have O2 := hide o2
    have hm := hide M2
    clear o2 M2
    have LAW := Maps.int_keyed Tryz.underlying21
    go_wp2_with (at_range; refine wpList_range_own _ rfl _ 139 rfl 21 5 LAW Tryz.underlying139 _ b 7 _ rfl hm.out ?_; intro w3 hrg3 hg3 hs3)
    go_frame
    have O3 := hide (show Old w1 w3 from Below.grown O2.out hg3 O2.out.size fun k hk => by cases hk)
    have HR3 := hide hrg3
    have z3 := O2.out.size
    clear hrg3 hg3 hs3
    cases hsv : shortV c with
    | some k =>
      have SP := hide (short_pair hsv)
      have FIN := hide (esc_short hc.out hσ.out h47 hsv)
      clear hsv h47
      go_loopw [4] (fun _ wr => ∃ (left : Lit → Bool) (cnt : Nat), Hid (left (.int .i32 (k : Int)) = true) ∧ Hid (wr.ranges (H := Unit) Tryz.prog 21 (plainElem Tryz.prog 5) b w2.heap.size 7 dTwo left cnt) ∧ Hid (Old w1 wr)) (fun _ wr => wr.rangeLeft b w2.heap.size)
      case atStart => exact ⟨_, _, hide FIN.out.2.2, HR3, O3⟩
      case round =>
        obtain ⟨left, cnt, hlk, hrg, HO⟩ := hrel
        go_wp2_with (at_next; refine wpList_next_ranges_ii _ rfl _ rfl 21 5 .i32 .u8 LAW Tryz.underlying21 Tryz.underlying5 b w2.heap.size 7 _ _ _ rfl hrg.out ?_ ?_)
        · intro _ hno
          exact absurd (hlk.out.symm.trans (hno _)) (by decide)
        · intro x y w4 cnt1 hwx hwc hlx hat hrg1 hlt hg1 hs1 hen
          have SS := hide (short_same SP.out (dTwo_pair hat))
          have HG1 := hide hrg1
          have O4 := hide (show Old w1 w4 from Below.grown HO.out hg1 HO.out.size fun k hk => by cases hk; exact z3)
          have ML := hide (show w4.rangeLeft b w2.heap.size < wr.rangeLeft b w2.heap.size by rw [hrg1.left_eq, hrg.out.left_eq]; exact hlt)
          clear hat hrg1 hg1 hlx hlt
          by_cases hy : y = (c.toNat : Int)
          · have hx := SS.out.1 hy
            subst hx
            have hy' : (y == (c.toNat : Int)) = true := by simp [hy]
            have EE := hide (show bT (escT l) = Utf8.encode ((k : Nat) : Int) by rw [FIN.out.2.1]; unfold encL; rw [bT_of])
            have RF := hide (show Rd rb s (escR l) w4 by rw [FIN.out.1]; exact R1.out.old O4.out)
            have OF := hide (show One rb w w4 from One.trans O1.out ((One.refl rb w1).old O4.out))
            clear hy
            go_wp2_with fail
            go_ret
            exact ⟨by rw [EE.out]; rfl, RF.out, OF.out⟩
          · have hx := SS.out.2 hy
            have hy' : (y == (c.toNat : Int)) = false := beq_eq_false_iff_ne.2 hy
            have HL := hide (show (left (.int .i32 (k : Int)) && !(Lit.int .i32 (k : Int)).sameKey (.int .i32 x)) = true by
              rw [hlk.out]
              simp [Lit.sameKey]
              omega)
            clear hy hx
            go_wp2_with fail
            go_roundw
            case rel => exact ⟨_, cnt1, HL, HG1, O4⟩
            case measure => exact ML.out
    | none =>
      have SN := hide (fun (x y : Int) hp => short_none hsv (x := x) (y := y) hp)
      have EU := hide (esc_all hc.out hσ.out h47 hsv)
      clear hsv h47
      go_loopw [4] (fun _ wr => ∃ (left : Lit → Bool) (cnt : Nat), Hid (wr.ranges (H := Unit) Tryz.prog 21 (plainElem Tryz.prog 5) b w2.heap.size 7 dTwo left cnt) ∧ Hid (Old w1 wr)) (fun _ wr => wr.rangeLeft b w2.heap.size)
      case atStart => exact ⟨_, _, HR3, O3⟩
      case round =>
        obtain ⟨left, cnt, hrg, HO⟩ := hrel
        go_wp2_with (at_next; refine wpList_next_ranges_ii _ rfl _ rfl 21 5 .i32 .u8 LAW Tryz.underlying21 Tryz.underlying5 b w2.heap.size 7 _ _ _ rfl hrg.out ?_ ?_)
        · intro _ _
          have ON := hide (One.trans O1.out ((One.refl rb w1).old HO.out))
          have RN := hide (R1.out.old HO.out)
          have hu2 := hide (show True from trivial)
          obtain ⟨σ2, h2⟩ : ∃ x, Hid ((if c = 117 then σ else failR 41 σ) = x) := ⟨_, hide rfl⟩
          rw [h2.out] at EU
          obtain ⟨n, hn⟩ : ∃ x, Hid (halfN false σ2 = x) := ⟨_, hide rfl⟩
          have hnlt : n < 65536 := by rw [← hn.out]; exact halfN_lt _ _
          obtain ⟨σ3, h3⟩ : ∃ x, Hid (halfR false σ2 = x) := ⟨_, hide rfl⟩
          have C3 := hide (fun w' (r : Rd rb s σ2 w') => halves_run rb s false σ2 σ3 n w' hs r hn.out h3.out)
          obtain ⟨m, hm2⟩ : ∃ x, Hid (uniN σ2 = x) := ⟨_, hide rfl⟩
          obtain ⟨σ6, h6⟩ : ∃ x, Hid (uniR σ2 = x) := ⟨_, hide rfl⟩
          rw [hm2.out, h6.out] at EU
          have UN := hm2
          have UR := h6
          have UN := hide hm2.out
          have UR := hide h6.out
          unfold uniN at UN
          unfold uniR at UR
          rw [hn.out, h3.out] at UN UR
          clear hrg HO HR3 O3 R1 O1 O2 hm hn h3 hm2 h6
          go_upto_if 24 with fail
          go_cut [] (fun wd => Hid (Rd rb s σ2 wd) ∧ Hid (One rb w wd))
          case first =>
            by_cases hu : c = 117
            · have e2 := h2.out
              rw [if_pos hu] at e2
              have FIN := hide (show Rd rb s σ2 wr by rw [← e2]; exact RN.out)
              have hq2 : ((c.toNat : Int) != 117) = false := by rw [hu]; rfl
              clear hu e2
              go_wp2_with fail
              go_meet
              exact ⟨FIN, ON⟩
            · have e2 := h2.out
              rw [if_neg hu] at e2
              have CF := hide (rfail_run rb s σ 41 wr RN.out (by decide))
              rw [e2] at CF
              have hq2 : ((c.toNat : Int) != 117) = true := by
                have : c.toNat ≠ 117 := fun e => hu (UInt8.toNat_inj.1 e)
                simp; omega
              clear hu e2
              go_wp2_with fail
              refine CF.out.mono ?_
              rintro e w5 ⟨rfl, r5, o5⟩
              have R5 := hide r5
              have O5 := hide (ON.out.trans o5)
              clear r5 o5
              go_wp2_with fail
              go_meet
              exact ⟨R5, O5⟩
          case rest =>
            obtain ⟨R5, O5⟩ := hcut
            go_wp2_with fail
            refine (C3.out _ R5.out).mono ?_
            rintro e w6 ⟨rfl, r6, o6⟩
            have R6 := hide r6
            have O6 := hide (O5.out.trans o6)
            clear r6 o6 C3 R5 O5
            obtain ⟨B, hB⟩ : ∃ B, Hid (isHigh n = B) := ⟨_, hide rfl⟩
            rw [hB.out] at UN UR
            go_upto_region 12 with fail
            go_cut [34] (fun bv wd => bv = .bool B ∧ wd = w6)
            case first =>
              by_cases g1 : 55296 ≤ n
              · have g1' : (55296 : Int) ≤ (n : Int) := by omega
                by_cases g2 : n < 56320
                · have g2' : (n : Int) < 56320 := by omega
                  have e0 := hide (show B = true by rw [← hB.out]; unfold isHigh; rw [decide_eq_true g1, decide_eq_true g2]; rfl)
                  go_wp2_with fail
                  go_meet
                  exact ⟨by rw [e0.out], rfl⟩
                · have g2' : ¬ (n : Int) < 56320 := by omega
                  have e0 := hide (show B = false by rw [← hB.out]; unfold isHigh; rw [decide_eq_false g2, Bool.and_false])
                  go_wp2_with fail
                  go_meet
                  exact ⟨by rw [e0.out], rfl⟩
              · have g1' : ¬ (55296 : Int) ≤ (n : Int) := by omega
                have e0 := hide (show B = false by rw [← hB.out]; unfold isHigh; rw [decide_eq_false g1, Bool.false_and])
                go_wp2_with fail
                go_meet
                exact ⟨by rw [e0.out], rfl⟩
            case rest =>
              obtain ⟨rfl, rfl⟩ := hcut
              go_upto_if 34 with fail
              go_cut [6] (fun nv wd => nv = .int .i32 (m : Int) ∧ Hid (Rd rb s σ6 wd) ∧ Hid (One rb w wd))
              case first =>
                cases B
                · have e1 := UN.out
                  have e2 := UR.out
                  rw [if_neg (by decide)] at e1 e2
                  have FIN := hide (show Rd rb s σ6 _ by rw [← e2]; exact R6.out)
                  have EM := hide e1
                  clear e1 e2
                  go_wp2_with fail
                  go_meet
                  exact ⟨by rw [EM.out], FIN, O6⟩
                · have e1 := UN.out
                  have e2 := UR.out
                  rw [if_pos rfl] at e1 e2
                  obtain ⟨σ4, h4⟩ : ∃ x, Hid (wantR 92 σ3 = x) := ⟨_, hide rfl⟩
                  rw [h4.out] at e1 e2
                  obtain ⟨σ5, h5⟩ : ∃ x, Hid (wantR 117 σ4 = x) := ⟨_, hide rfl⟩
                  rw [h5.out] at e1 e2
                  obtain ⟨k, hk⟩ : ∃ x, Hid (halfN true σ5 = x) := ⟨_, hide rfl⟩
                  have hklt : k < 65536 := by rw [← hk.out]; exact halfN_lt _ _
                  rw [hk.out] at e1
                  have PI := pairOf_int hB.out hklt
                  rw [e1] at PI
                  have E2 := hide e2
                  have hn1 : 55296 ≤ n ∧ n < 56320 := by
                    have := hB.out
                    unfold isHigh at this
                    simpa using this
                  have PII := hide PI
                  have CW1 := hide (want_run rb s σ3 92 _ hs R6.out)
                  rw [h4.out] at CW1
                  clear e1 e2 PI
                  obtain ⟨hn1, hn2⟩ := hn1
                  go_wp2_with fail
                  refine CW1.out.mono ?_
                  rintro e w7 ⟨rfl, r7, o7⟩
                  have O7 := hide (O6.out.trans o7)
                  have CW2 := hide (want_run rb s σ4 117 _ hs r7)
                  rw [h5.out] at CW2
                  clear r7 o7 CW1
                  go_wp2_with fail
                  refine CW2.out.mono ?_
                  rintro e w8 ⟨rfl, r8, o8⟩
                  have O8 := hide (O7.out.trans o8)
                  have CH := hide (halves_run rb s true σ5 σ6 k w8 hs r8 hk.out E2.out)
                  clear r8 o8 CW2
                  go_wp2_with fail
                  refine CH.out.mono ?_
                  rintro e w9 ⟨rfl, r9, o9⟩
                  have O9 := hide (O8.out.trans o9)
                  have R9 := hide r9
                  clear r9 o9 CH
                  go_wp2_with fail
                  go_meet
                  exact ⟨by rw [PII.out], R9, O9⟩
              case rest =>
                obtain ⟨rfl, R9, O9⟩ := hcut
                have RR := R9.out
                obtain ⟨_, _, _, at_, er, _, x2, hst⟩ := RR
                cases σ6 with
                | error d =>
                  obtain ⟨rfl, hd⟩ := hst
                  have hd' : (er != 0) = true := by simpa using hd
                  have FT := hide (EU.out.2.2 er EU.out.1)
                  have FR := hide EU.out.1
                  clear hd
                  go_wp2_with fail
                  go_ret
                  exact ⟨by rw [FT.out]; rfl, by rw [FR.out]; exact R9.out, O9.out⟩
                | ok q =>
                  obtain ⟨rfl, _⟩ := hst
                  have FT := hide (EU.out.2.1 q EU.out.1)
                  have FR := hide EU.out.1
                  go_wp2_with fail
                  go_ret
                  exact ⟨by rw [FT.out]; unfold encL; rw [bT_of]; rfl, by rw [FR.out]; exact R9.out, O9.out⟩
        · intro x y w4 cnt1 hwx hwc hlx hat hrg1 hlt hg1 hs1 hen
          have hne := SN.out x y (dTwo_pair hat)
          have hne' : (y == (c.toNat : Int)) = false := beq_eq_false_iff_ne.2 hne
          have HG1 := hide hrg1
          have O4 := hide (show Old w1 w4 from Below.grown HO.out hg1 HO.out.size fun k hk => by cases hk; exact z3)
          have ML := hide (show w4.rangeLeft b w2.heap.size < wr.rangeLeft b w2.heap.size by rw [hrg1.left_eq, hrg.out.left_eq]; exact hlt)
          clear hne hat hrg1 hg1 hlx hlt
          go_wp2_with fail
          go_roundw
          case rel => exact ⟨_, cnt1, HG1, O4⟩
          case measure => exact ML.out
end Go.Proofs.YtmolmphbhdbcaaaGreatDoor
