/-  -/
import Derived.Test.YthlfljmfggmfdaaGreatDoorQf33
import Derived.Test.YthlfljmfggmfdaaGreatDoorQf24
import Derived.Test.YthlfljmfggmfdaaGreatDoorQf09
import Derived.Lib.ItoaNum
/-! ###  -/
namespace Go.Proofs.YthlfljmfggmfdaaGreatDoor
open Go.Lib (decodeN decodeL)
theorem hex1_loc {l r : List UInt8} {k : Nat} (h : hex1 l = .ok (k, r)) (t : List UInt8) : hex1 (l ++ t) = .ok (k, r ++ t) := by
 cases l with
 | nil => cases h
 | cons c l =>
   simp only [hex1, List.cons_append] at h ⊢
   split at h
   · cases h
   · rename_i k' hk
     injection h with h; injection h with h1 h2; subst h1 h2
     rfl
theorem want1_loc {x : UInt8} {l r : List UInt8} (h : want1 x l = .ok r) (t : List UInt8) : want1 x (l ++ t) = .ok (r ++ t) := by
 cases l with
 | nil => cases h
 | cons c l =>
   simp only [want1, List.cons_append] at h ⊢
   split at h
   · rename_i hc
     injection h with h; subst h
     rw [if_pos hc]
   · cases h
theorem half4_loc {s : Bool} {l r : List UInt8} {k : Nat} (h : half4 s l = .ok (k, r)) (t : List UInt8) : half4 s (l ++ t) = .ok (k, r ++ t) := by
 unfold half4 at h ⊢
 split at h
 · cases h
 rename_i a l1 h1
 rw [hex1_loc h1 t]
 simp only
 split at h
 · cases h
 rename_i c1
 rw [if_neg c1]
 split at h
 · cases h
 rename_i b l2 h2
 rw [hex1_loc h2 t]
 simp only
 split at h
 · cases h
 rename_i c2
 rw [if_neg c2]
 split at h
 · cases h
 rename_i c l3 h3
 rw [hex1_loc h3 t]
 simp only
 split at h
 · cases h
 rename_i d l4 h4
 rw [hex1_loc h4 t]
 injection h with h; injection h with e1 e2; subst e1 e2
 rfl
theorem wordV_loc : ∀ {x l r : List UInt8}, wordV x l = .ok r → ∀ t, wordV x (l ++ t) = .ok (r ++ t)
 | [], l, r, h, t => by simp only [wordV] at h ⊢; injection h with h; subst h; rfl
 | _ :: _, [], _, h, _ => by cases h
 | x :: xs, c :: l, r, h, t => by
   simp only [wordV, List.cons_append] at h ⊢
   split at h
   · rename_i hc
     rw [if_pos hc]
     exact wordV_loc h t
   · cases h
theorem dec_loc (l t : List UInt8) (hne : l ≠ []) (h : ¬ ((decodeL l).1 = 65533 ∧ (decodeL l).2 = 1)) : decodeL (l ++ t) = decodeL l := by
 rw [Lib.decodeL_N] at h
 rw [Lib.decodeL_N, Lib.decodeL_N]
 rcases Lib.decodeN_shape l.length (l.getD 0 0).toNat (l.getD 1 0).toNat (l.getD 2 0).toNat (l.getD 3 0).toNat with ⟨c, e⟩ | ⟨c1, c2, c3, cv, e⟩ | ⟨c1, c2, c3, c4, cv, cs, e⟩ | ⟨c1, c2, c3, c4, c5, cv, cw, e⟩ | e
 · rw [e]
   match l, hne with
   | a :: l, _ =>
     simp only [List.cons_append, List.getD_cons_zero] at c ⊢
     unfold decodeN
     rw [if_pos c]
 · rw [e]
   match l, c2 with
   | a :: b :: l, _ =>
     simp only [List.cons_append, List.getD_cons_zero, List.getD_cons_succ, List.length_cons] at c1 c3 cv ⊢
     unfold decodeN
     rw [if_neg (by omega), if_pos ⟨c1, by omega, c3⟩, if_pos cv]
 · rw [e]
   obtain ⟨a, b, d, l, rfl⟩ := three_of c2
   simp only [List.cons_append, List.getD_cons_zero, List.getD_cons_succ, List.length_cons] at c1 c3 c4 cv cs ⊢
   unfold decodeN
   rw [if_neg (by omega), if_neg (by omega), if_pos ⟨c1, ⟨by omega, c3⟩, by omega, c4⟩, if_pos ⟨cv, by omega⟩]
 · rw [e]
   obtain ⟨a, b, d, f, l, rfl⟩ := four_of c2
   simp only [List.cons_append, List.getD_cons_zero, List.getD_cons_succ, List.length_cons] at c1 c3 c4 c5 cv cw ⊢
   unfold decodeN
   rw [if_neg (by omega), if_neg (by omega), if_neg (by omega), if_pos ⟨c1, ⟨by omega, c3⟩, ⟨by omega, c4⟩, by omega, c5⟩, if_pos ⟨cv, by omega⟩]
 · rw [e] at h
   exact absurd ⟨rfl, rfl⟩ h
theorem runeN_loc (l t : List UInt8) (hne : l ≠ []) (h : runeN l ≠ 0) : runeN (l ++ t) = runeN l ∧ runeN l ≤ l.length := by
 have hr : ¬ Utf8.decode (bT l) 0 = (65533, 1) := by
  intro e
  apply h
  unfold runeN
  rw [if_pos e]
 have e1 : runeN l = (decodeL l).2 := by
  unfold runeN
  rw [if_neg hr]
  rfl
 have hb : ¬ ((decodeL l).1 = 65533 ∧ (decodeL l).2 = 1) := fun k => hr (show decodeL l = (65533, 1) from Prod.ext k.1 k.2)
 have e2 := dec_loc l t hne hb
 have e3 : runeN (l ++ t) = (decodeL (l ++ t)).2 := by
  unfold runeN
  rw [if_neg (by
   intro k
   apply hr
   have k2 : decodeL (l ++ t) = (65533, 1) := k
   rw [e2] at k2
   exact k2)]
  rfl
 exact ⟨by rw [e3, e2, e1], by rw [e1]; exact Lib.decodeL_le l hne⟩
theorem ok_tail {x u y r : List UInt8} (h : (Except.ok (x, y) : Except Int (List UInt8 × List UInt8)) = .ok (u, r)) (t : List UInt8) : (Except.ok (x, y ++ t) : Except Int (List UInt8 × List UInt8)) = .ok (u, r ++ t) := by
 injection h with h
 injection h with h1 h2
 rw [h1, h2]
theorem escV_loc {l r u : List UInt8} (h : escV l = .ok (u, r)) (t : List UInt8) : escV (l ++ t) = .ok (u, r ++ t) := by
 cases l with
 | nil => cases h
 | cons c l =>
   simp only [escV, List.cons_append] at h ⊢
   split at h
   · rename_i hc
     injection h with h; injection h with h1 h2; subst h1 h2
     rw [if_pos hc]
   rename_i hc
   rw [if_neg hc]
   split at h
   · exact ok_tail h t
   split at h
   · cases h
   rename_i hu
   rw [if_neg hu]
   split at h
   · cases h
   rename_i n r1 h1
   rw [half4_loc h1 t]
   simp only
   split at h
   · rename_i hh
     rw [if_pos hh]
     split at h
     · cases h
     rename_i r2 h2
     rw [want1_loc h2 t]
     simp only
     split at h
     · cases h
     rename_i r3 h3
     rw [want1_loc h3 t]
     simp only
     split at h
     · cases h
     rename_i k r4 h4
     rw [half4_loc h4 t]
     exact ok_tail h t
   · rename_i hh
     rw [if_neg hh]
     exact ok_tail h t
theorem pieceV_loc {l r u : List UInt8} (h : pieceV l = .ok (u, r)) (t : List UInt8) : pieceV (l ++ t) = .ok (u, r ++ t) := by
 cases l with
 | nil => cases h
 | cons c l =>
   simp only [pieceV, List.cons_append] at h ⊢
   split at h
   · rename_i hc
     rw [if_pos hc]
     exact escV_loc h t
   rename_i hc
   rw [if_neg hc]
   simp only [plainV] at h ⊢
   split at h
   · cases h
   rename_i h32
   rw [if_neg h32]
   split at h
   · rename_i hn
     injection h with h; injection h with h1 h2; subst h1 h2
     obtain ⟨e1, e2⟩ := runeN_loc (c :: l) t (by simp) hn
     rw [List.cons_append] at e1
     rw [e1, if_pos hn, ← List.cons_append, List.take_append_of_le_length e2, List.drop_append_of_le_length e2]
   · split at h <;> cases h
theorem unqB_loc : ∀ (f : Nat) (l r u : List UInt8), unqB f l = .ok (u, r) → ∀ t, unqB f (l ++ t) = .ok (u, r ++ t)
 | 0, _, _, _, h, _ => by cases h
 | f + 1, [], _, _, h, _ => by cases h
 | f + 1, c :: l, r, u, h, t => by
   simp only [unqB, List.cons_append] at h ⊢
   split at h
   · rename_i hc
     injection h with h; injection h with h1 h2; subst h1 h2
     rw [if_pos hc]
   rename_i hc
   rw [if_neg hc]
   split at h
   · cases h
   rename_i t1 r1 h1
   have h1' := pieceV_loc h1 t
   rw [List.cons_append] at h1'
   rw [h1']
   simp only
   split at h
   · cases h
   rename_i v r2 h2
   rw [unqB_loc f r1 r2 v h2 t]
   injection h with h; injection h with e1 e2; subst e1 e2
   rfl
theorem unqV_loc {l r u : List UInt8} (h : unqV l = .ok (u, r)) (t : List UInt8) : unqV (l ++ t) = .ok (u, r ++ t) := by
 cases l with
 | nil => cases h
 | cons c l =>
   simp only [unqV, List.cons_append] at h ⊢
   split at h
   · cases h
   rename_i hc
   rw [if_neg hc]
   have h1 := unqB_loc _ _ _ _ h t
   have h2 := unqB_more ((l ++ t).length + 1) (l.length + 1 + t.length) (l ++ t) (by omega) (by simp only [List.length_append]; omega)
   rw [h2]
   have mono : ∀ (f g : Nat) (x y v : List UInt8), unqB f x = .ok (v, y) → unqB (f + g) x = .ok (v, y) := by
    intro f
    induction f with
    | zero => intro g x y v hx; cases hx
    | succ f ih =>
      intro g x y v hx
      rw [show f + 1 + g = (f + g) + 1 by omega]
      cases x with
      | nil => cases hx
      | cons c x =>
        simp only [unqB] at hx ⊢
        split at hx
        · rename_i hc
          rw [if_pos hc]
          exact hx
        rename_i hc
        rw [if_neg hc]
        split at hx
        · cases hx
        rename_i t1 r1 h1
        split at hx
        · cases hx
        rename_i u2 r2 h2
        rw [ih g _ _ _ h2]
        exact hx
   exact mono _ _ _ _ _ h1
theorem litV_loc {l r u : List UInt8} (h : litV l = .ok (u, r)) (t : List UInt8) : litV (l ++ t) = .ok (u, r ++ t) := by
 cases l with
 | nil => cases h
 | cons c l =>
   simp only [litV, List.cons_append] at h ⊢
   split at h
   · cases h
   rename_i hc
   rw [if_neg hc]
   split at h
   · cases h
   · rename_i x hx
     injection h with h
     subst h
     have := unqV_loc hx t
     rw [List.cons_append] at this
     rw [this]
end Go.Proofs.YthlfljmfggmfdaaGreatDoor
namespace Go.Proofs.YthlfljmfggmfdaaGreatDoor
open Go.Lib (decDigits itoa)
theorem dig_toNat {k : Nat} (h : k < 10) : (UInt8.ofNat (48 + k)).toNat = 48 + k := by simp; omega
theorem dig_isDig {k : Nat} (h : k < 10) : isDig (UInt8.ofNat (48 + k)) = true := by
 unfold isDig
 rw [dig_toNat h]
 simp
 omega
theorem decV_snoc (l : List UInt8) (d : UInt8) : decV (l ++ [d]) = 10 * decV l + (d.toNat - 48) := by
 unfold decV
 rw [List.foldl_append]
 rfl
theorem dec_all (u : Nat) : ∀ d ∈ decDigits u, isDig d = true := by
 induction u using Nat.strongRecOn with
 | ind u ih =>
   intro d hd
   rw [Lib.decDigits] at hd
   split at hd
   · rename_i h
     simp only [List.mem_singleton] at hd
     subst hd
     exact dig_isDig h
   · rename_i h
     rcases List.mem_append.1 hd with hd | hd
     · exact ih (u / 10) (by omega) d hd
     · simp only [List.mem_singleton] at hd
       subst hd
       exact dig_isDig (Nat.mod_lt _ (by decide))
theorem dec_val (u : Nat) : decV (decDigits u) = u := by
 induction u using Nat.strongRecOn with
 | ind u ih =>
   rw [Lib.decDigits]
   split
   · rename_i h
     have e : decV [UInt8.ofNat (48 + u)] = 10 * 0 + ((UInt8.ofNat (48 + u)).toNat - 48) := rfl
     rw [e, dig_toNat h]
     omega
   · rename_i h
     rw [decV_snoc, ih (u / 10) (by omega), dig_toNat (Nat.mod_lt _ (by decide))]
     omega
theorem dec_head (u : Nat) : ∃ d r, decDigits u = d :: r ∧ isDig d = true ∧ (u ≠ 0 → d ≠ 48) ∧ (u = 0 → r = [] ∧ d = 48) := by
 induction u using Nat.strongRecOn with
 | ind u ih =>
   rw [Lib.decDigits]
   split
   · rename_i h
     refine ⟨_, _, rfl, dig_isDig h, fun h0 e => ?_, fun h0 => ⟨rfl, by subst h0; rfl⟩⟩
     have := congrArg UInt8.toNat e
     rw [dig_toNat h] at this
     have e48 : (48 : UInt8).toNat = 48 := rfl
     rw [e48] at this
     omega
   · rename_i h
     obtain ⟨d, r, e, h1, h2, _⟩ := ih (u / 10) (by omega)
     rw [e]
     exact ⟨d, r ++ [UInt8.ofNat (48 + u % 10)], rfl, h1, fun _ => h2 (by omega), fun h0 => by omega⟩
def Stops (r : List UInt8) : Prop := match r with | [] => True | c :: _ => isDig c = false
theorem digsOf_app : ∀ {D r : List UInt8}, (∀ d ∈ D, isDig d = true) → Stops r → digsOf (D ++ r) = D ∧ digsEnd (D ++ r) = r
 | [], [], _, _ => ⟨rfl, rfl⟩
 | [], c :: r, _, h => by
   have h : isDig c = false := h
   simp [digsOf, digsEnd, h]
 | d :: D, r, hD, h => by
   have hd := hD d (List.mem_cons_self ..)
   obtain ⟨e1, e2⟩ := digsOf_app (D := D) (r := r) (fun x hx => hD x (List.mem_cons_of_mem _ hx)) h
   simp only [List.cons_append, digsOf, digsEnd, hd, if_true, e1, e2]
   exact ⟨trivial, trivial⟩
theorem whole_app {D r : List UInt8} (hD : ∀ d ∈ D, isDig d = true) (hr : Stops r) (h0 : D = [48] ∨ ∃ d D', D = d :: D' ∧ d ≠ 48) : wholeV (D ++ r) = .ok (D, r) := by
 rcases h0 with rfl | ⟨d, D', rfl, hd⟩
 · unfold wholeV
   rw [show opt1 48 ([48] ++ r) = (true, r) by simp [opt1]]
 · unfold wholeV
   rw [show opt1 48 (d :: D' ++ r) = (false, d :: D' ++ r) by simp [opt1, hd]]
   obtain ⟨e1, e2⟩ := digsOf_app hD hr
   unfold digs1
   simp only
   rw [e1, e2, if_neg (by simp)]
theorem opt1_dig {d : UInt8} {r : List UInt8} (h : isDig d = true) : opt1 45 (d :: r) = (false, d :: r) := by
 have h2 : d ≠ 45 := by
  rintro rfl
  exact absurd h (by decide)
 simp [opt1, h2]
def signD (neg : Bool) (D : List UInt8) : List UInt8 := (if neg then [45] else []) ++ D
theorem sign_opt {neg : Bool} {D r : List UInt8} (hD : ∀ d ∈ D, isDig d = true) (h0 : D ≠ []) : opt1 45 (signD neg D ++ r) = (neg, D ++ r) := by
 cases neg with
 | true => simp [signD, opt1]
 | false =>
   cases D with
   | nil => exact absurd rfl h0
   | cons d D =>
     exact opt1_dig (hD d (List.mem_cons_self ..))
theorem parse_num {neg : Bool} {D r : List UInt8} (hD : ∀ d ∈ D, isDig d = true) (h0 : D ≠ []) (hl : (signD neg D ++ r).length ≤ 1048576) :
 parseV (signD neg D ++ r) = match numV (signD neg D ++ r) with
  | .error (p, e) => .error ((signD neg D ++ r).length - p.length, e)
  | .ok (n, q) => match skipB q with
    | [] => .ok (oneJ 4 n none_)
    | c :: p => .error ((signD neg D ++ r).length - (c :: p).length, 70) := by
 obtain ⟨c, t, hc, hb⟩ : ∃ c t, signD neg D ++ r = c :: t ∧ (isDig c = true ∨ c = 45) := by
  cases neg with
  | true => exact ⟨45, D ++ r, rfl, .inr rfl⟩
  | false =>
    cases D with
    | nil => exact absurd rfl h0
    | cons d D => exact ⟨d, D ++ r, rfl, .inl (hD d (List.mem_cons_self ..))⟩
 rw [hc] at hl ⊢
 have ne : ∀ k : UInt8, isDig k = false → k ≠ 45 → c ≠ k := by
  rintro k h1 h2 rfl
  rcases hb with hb | hb
  · rw [h1] at hb; cases hb
  · exact h2 hb
 have hsk : skipB (c :: t) = c :: t := by
  have h1 := ne 32 (by decide) (by decide)
  have h2 := ne 9 (by decide) (by decide)
  have h3 := ne 10 (by decide) (by decide)
  have h4 := ne 13 (by decide) (by decide)
  simp [skipB, isBlank, h1, h2, h3, h4]
 have hbeg : ¬ begB c = false := by
  unfold begB
  rcases hb with hb | hb
  · rw [hb]; simp
  · subst hb; decide
 have hleaf : leafV c (c :: t) = match numV (c :: t) with | .error b => .error b | .ok (n, q) => .ok (oneJ 4 n none_, q) := by
  unfold leafV
  rw [if_neg (ne 110 (by decide) (by decide)), if_neg (ne 102 (by decide) (by decide)), if_neg (ne 116 (by decide) (by decide)), if_neg (ne 34 (by decide) (by decide))]
  cases numV (c :: t) <;> rfl
 unfold parseV
 rw [if_neg (by omega), hsk]
 have hpv : pv (fuelOf (c :: t)) 0 0 (c :: t) = leafV c (c :: t) := by
  unfold fuelOf
  simp only [pv]
  rw [if_neg hbeg, if_neg (by decide), if_neg (by decide), if_neg (by
   rintro (h | h)
   · exact ne 91 (by decide) (by decide) h
   · exact ne 123 (by decide) (by decide) h)]
 rw [hpv, hleaf]
 cases numV (c :: t) with
 | error b => rfl
 | ok x =>
   obtain ⟨n, q⟩ := x
   simp only
   cases skipB q <;> rfl
theorem itoa_sign (n : Int) : itoa n = signD (decide (n < 0)) (decDigits n.natAbs) := by
 unfold Lib.itoa signD
 by_cases h : n < 0
 · rw [if_pos h, decide_eq_true h]; rfl
 · rw [if_neg h, decide_eq_false h, show n.toNat = n.natAbs by omega]; rfl
theorem dec_form (u : Nat) : decDigits u = [48] ∨ ∃ d D', decDigits u = d :: D' ∧ d ≠ 48 := by
 obtain ⟨d, r, e, _, h2, h3⟩ := dec_head u
 by_cases h : u = 0
 · obtain ⟨h4, h5⟩ := h3 h
   rw [e, h4, h5]
   exact .inl rfl
 · exact .inr ⟨d, r, e, h2 h⟩
theorem dec_ne (u : Nat) : decDigits u ≠ [] := by
 obtain ⟨d, r, e, _⟩ := dec_head u
 rw [e]
 simp
theorem signed_dec (n : Int) : signed (decide (n < 0)) (decV (decDigits n.natAbs)) = n := by
 rw [dec_val]
 unfold signed
 by_cases h : n < 0
 · rw [decide_eq_true h, if_pos rfl]; omega
 · rw [decide_eq_false h, if_neg (by decide)]; omega
theorem num_whole {neg : Bool} {D r : List UInt8} (hD : ∀ d ∈ D, isDig d = true) (hr : Stops r) (h0 : D = [48] ∨ ∃ d D', D = d :: D' ∧ d ≠ 48) : numV (signD neg D ++ r) = match fracV r with
 | .error b => .error b
 | .ok (f, l3) => match expV l3 with
   | .error b => .error b
   | .ok (e, l4) =>
     if f = true ∨ e = true ∨ signed neg (decV D) < -9223372036854775808 ∨ 9223372036854775807 < signed neg (decV D) then .error (signD neg D ++ r, 73)
     else .ok (signed neg (decV D), l4) := by
 have hne : D ≠ [] := by
  rcases h0 with rfl | ⟨d, D', rfl, _⟩ <;> simp
 unfold numV
 rw [sign_opt hD hne]
 simp only
 rw [whole_app hD hr h0]
 simp only
 cases fracV r with
 | error b => rfl
 | ok x =>
   obtain ⟨f, l3⟩ := x
   simp only
   cases expV l3 with
   | error b => rfl
   | ok y => rfl
theorem parse_itoa (n : Int) (h0 : -9223372036854775808 ≤ n) (h1 : n ≤ 9223372036854775807) (hl : (itoa n).length ≤ 1048576) : parseV (itoa n) = .ok (oneJ 4 n none_) := by
 rw [itoa_sign] at hl ⊢
 have e : signD (decide (n < 0)) (decDigits n.natAbs) = signD (decide (n < 0)) (decDigits n.natAbs) ++ [] := (List.append_nil _).symm
 rw [e] at hl ⊢
 rw [parse_num (dec_all _) (dec_ne _) hl, num_whole (dec_all _) (show Stops [] from trivial) (dec_form _)]
 simp only [fracV, opt1, expV, opt2]
 rw [signed_dec, if_neg (by simp; omega)]
 rfl
end Go.Proofs.YthlfljmfggmfdaaGreatDoor
namespace Go.Proofs.YthlfljmfggmfdaaGreatDoor
def Free (t : List UInt8) : Prop := match t with | [] => True | c :: _ => isDig c = false ∧ c ≠ 46 ∧ c ≠ 101 ∧ c ≠ 69
theorem Free.stops {t : List UInt8} (h : Free t) : Stops t := by
 cases t with
 | nil => trivial
 | cons c t => exact h.1
theorem digs_loc {t : List UInt8} (ht : Stops t) : ∀ l : List UInt8, digsOf (l ++ t) = digsOf l ∧ digsEnd (l ++ t) = digsEnd l ++ t
 | [] => by
   cases t with
   | nil => exact ⟨rfl, rfl⟩
   | cons c t =>
     have h : isDig c = false := ht
     simp [digsOf, digsEnd, h]
 | c :: l => by
   obtain ⟨h1, h2⟩ := digs_loc ht l
   simp only [List.cons_append, digsOf, digsEnd]
   split
   · rw [h1, h2]; exact ⟨rfl, rfl⟩
   · exact ⟨rfl, rfl⟩
theorem digs1_loc {l d r t : List UInt8} (ht : Stops t) (h : digs1 l = .ok (d, r)) : digs1 (l ++ t) = .ok (d, r ++ t) := by
 obtain ⟨h1, h2⟩ := digs_loc ht l
 unfold digs1 at h ⊢
 rw [h1, h2]
 split at h
 · cases h
 · rename_i hd
   injection h with h; injection h with e1 e2; subst e1 e2
   rw [if_neg hd]
theorem opt1_loc {x : UInt8} {l t : List UInt8} (ht : l = [] → ∀ c r, t = c :: r → c ≠ x) : opt1 x (l ++ t) = ((opt1 x l).1, (opt1 x l).2 ++ t) := by
 cases l with
 | nil =>
   cases t with
   | nil => rfl
   | cons c t => simp [opt1, ht rfl c t rfl]
 | cons c l =>
   simp only [List.cons_append, opt1]
   split <;> rfl
theorem opt2_loc {x y : UInt8} {l t : List UInt8} (ht : l = [] → ∀ c r, t = c :: r → c ≠ x ∧ c ≠ y) : opt2 x y (l ++ t) = ((opt2 x y l).1, (opt2 x y l).2 ++ t) := by
 cases l with
 | nil =>
   cases t with
   | nil => rfl
   | cons c t =>
     obtain ⟨h1, h2⟩ := ht rfl c t rfl
     simp [opt2, h1, h2]
 | cons c l =>
   simp only [List.cons_append, opt2]
   split <;> rfl
theorem digs1_ne {l d r : List UInt8} (h : digs1 l = .ok (d, r)) : l ≠ [] := by
 rintro rfl
 cases h
theorem wholeV_loc {l d r t : List UInt8} (ht : Free t) (h : wholeV l = .ok (d, r)) : wholeV (l ++ t) = .ok (d, r ++ t) := by
 have hne : l ≠ [] := by
  rintro rfl
  cases h
 unfold wholeV at h ⊢
 rw [opt1_loc (fun e => absurd e hne)]
 cases ho : opt1 48 l with
 | mk b r1 =>
   rw [ho] at h
   cases b with
   | true =>
     simp only at h ⊢
     injection h with h; injection h with e1 e2; subst e1 e2
     rfl
   | false =>
     simp only at h ⊢
     exact digs1_loc ht.stops h
theorem fracV_loc {l r t : List UInt8} {f : Bool} (ht : Free t) (h : fracV l = .ok (f, r)) : fracV (l ++ t) = .ok (f, r ++ t) := by
 unfold fracV at h ⊢
 rw [opt1_loc (fun _ c q e => by subst e; exact ht.2.1)]
 cases ho : opt1 46 l with
 | mk b r1 =>
   rw [ho] at h
   cases b with
   | true =>
     simp only at h ⊢
     split at h
     · cases h
     · rename_i d r2 h1
       rw [digs1_loc ht.stops h1]
       injection h with h; injection h with e1 e2; subst e1 e2
       rfl
   | false =>
     simp only at h ⊢
     injection h with h; injection h with e1 e2; subst e1 e2
     rfl
theorem expV_loc {l r t : List UInt8} {f : Bool} (ht : Free t) (h : expV l = .ok (f, r)) : expV (l ++ t) = .ok (f, r ++ t) := by
 unfold expV at h ⊢
 rw [opt2_loc (fun _ c q e => by subst e; exact ⟨ht.2.2.1, ht.2.2.2⟩)]
 cases ho : opt2 101 69 l with
 | mk b r1 =>
   rw [ho] at h
   cases b with
   | true =>
     simp only at h ⊢
     split at h
     · cases h
     · rename_i d r2 h1
       have hne : r1 ≠ [] := by
        rintro rfl
        exact digs1_ne h1 rfl
       rw [opt2_loc (fun e => absurd e hne), digs1_loc ht.stops h1]
       injection h with h; injection h with e1 e2; subst e1 e2
       rfl
   | false =>
     simp only at h ⊢
     injection h with h; injection h with e1 e2; subst e1 e2
     rfl
theorem numV_loc {l r t : List UInt8} {n : Int} (ht : Free t) (h : numV l = .ok (n, r)) : numV (l ++ t) = .ok (n, r ++ t) := by
 have hne : l ≠ [] := by
  rintro rfl
  cases h
 unfold numV at h ⊢
 rw [opt1_loc (fun e => absurd e hne)]
 simp only
 split at h
 · cases h
 rename_i ds l2 h1
 rw [wholeV_loc ht h1]
 simp only
 split at h
 · cases h
 rename_i f l3 h2
 rw [fracV_loc ht h2]
 simp only
 split at h
 · cases h
 rename_i e l4 h3
 rw [expV_loc ht h3]
 simp only
 split at h
 · cases h
 · rename_i hc
   rw [if_neg hc]
   injection h with h; injection h with e1 e2; subst e1 e2
   rfl
theorem leafV_loc {c : UInt8} {l r t : List UInt8} {j : J} (ht : Free t) (h : leafV c l = .ok (j, r)) : leafV c (l ++ t) = .ok (j, r ++ t) := by
 unfold leafV at h ⊢
 split at h
 · rename_i h1
   rw [if_pos h1]
   split at h
   · cases h
   · rename_i hw
     rw [wordV_loc hw t]
     injection h with h; injection h with e1 e2; subst e1 e2
     rfl
 rename_i h1
 rw [if_neg h1]
 split at h
 · rename_i h2
   rw [if_pos h2]
   split at h
   · cases h
   · rename_i hw
     rw [wordV_loc hw t]
     injection h with h; injection h with e1 e2; subst e1 e2
     rfl
 rename_i h2
 rw [if_neg h2]
 split at h
 · rename_i h3
   rw [if_pos h3]
   split at h
   · cases h
   · rename_i hw
     rw [wordV_loc hw t]
     injection h with h; injection h with e1 e2; subst e1 e2
     rfl
 rename_i h3
 rw [if_neg h3]
 split at h
 · rename_i h4
   rw [if_pos h4]
   split at h
   · cases h
   · rename_i hw
     rw [litV_loc hw t]
     injection h with h; injection h with e1 e2; subst e1 e2
     rfl
 · rename_i h4
   rw [if_neg h4]
   split at h
   · cases h
   · rename_i hw
     rw [numV_loc ht hw]
     injection h with h; injection h with e1 e2; subst e1 e2
     rfl
end Go.Proofs.YthlfljmfggmfdaaGreatDoor
namespace Go.Proofs.YthlfljmfggmfdaaGreatDoor
theorem skip_loc {t : List UInt8} : ∀ {l : List UInt8}, skipB l ≠ [] → skipB (l ++ t) = skipB l ++ t
 | [], h => absurd rfl h
 | c :: l, h => by
   simp only [skipB, List.cons_append] at h ⊢
   split
   · rename_i hb
     rw [if_pos hb] at h
     exact skip_loc h
   · rfl
theorem moreV_loc {obj b : Bool} {l r t : List UInt8} (h : moreV obj l = .ok (b, r)) : moreV obj (l ++ t) = .ok (b, r ++ t) := by
 unfold moreV at h ⊢
 cases hs : skipB l with
 | nil => rw [hs] at h; cases h
 | cons c q =>
   rw [hs] at h
   rw [skip_loc (by rw [hs]; simp), hs]
   simp only [List.cons_append] at h ⊢
   split at h
   · rename_i hc
     rw [if_pos hc]
     injection h with h; injection h with e1 e2; subst e1 e2
     rfl
   rename_i hc
   rw [if_neg hc]
   split at h
   · rename_i hc2
     rw [if_pos hc2]
     injection h with h; injection h with e1 e2; subst e1 e2
     rfl
   · cases h
theorem keyV_loc {obj : Bool} {had : List ByteArray} {l r t : List UInt8} {k : ByteArray} (h : keyV obj had l = .ok (k, r)) : keyV obj had (l ++ t) = .ok (k, r ++ t) := by
 cases obj with
 | false =>
   simp only [keyV, if_true] at h ⊢
   injection h with h; injection h with e1 e2; subst e1 e2
   rfl
 | true =>
   rw [keyM_eq] at h ⊢
   unfold keyM at h ⊢
   split at h
   · cases h
   rename_i s r1 h1
   have hne : skipB l ≠ [] := by
    intro e
    rw [e] at h1
    cases h1
   rw [skip_loc hne, litV_loc h1 t]
   simp only
   split at h
   · cases h
   rename_i hk
   rw [if_neg hk]
   split at h
   · cases h
   rename_i r2 hw
   have hne2 : skipB r1 ≠ [] := by
    intro e
    rw [e] at hw
    cases hw
   rw [skip_loc hne2, wordV_loc hw t]
   injection h with h; injection h with e1 e2; subst e1 e2
   rfl
theorem loc_both : ∀ f : Nat, (∀ (g n d n' d' : Nat) (l r t : List UInt8) (j : J), pv f n d l = .ok (j, r) → Free t → n' + j.flat.length ≤ 4000 → d' + j.deep ≤ 64 → pv (f + g) n' d' (l ++ t) = .ok (j, r ++ t)) ∧
 ∀ (g : Nat) (obj : Bool) (n d n' d' : Nat) (had : List ByteArray) (l r t : List UInt8) (js : List J), pp f obj n d had l = .ok (js, r) → Free t → n' + (J.flats js).length ≤ 4000 → d' + J.deeps js ≤ 64 → pp (f + g) obj n' d' had (l ++ t) = .ok (js, r ++ t)
 | 0 => by
   refine ⟨fun _ _ _ _ _ _ _ _ _ h => ?_, fun _ _ _ _ _ _ _ _ _ _ _ h => ?_⟩
   · simp only [pv] at h; cases h
   · simp only [pp] at h; cases h
 | f + 1 => by
   obtain ⟨ihv, ihp⟩ := loc_both f
   refine ⟨fun g n d n' d' l r t j h ht hn hd => ?_, fun g obj n d n' d' had l r t js h ht hn hd => ?_⟩
   · rw [show f + 1 + g = (f + g) + 1 by omega]
     cases l with
     | nil => simp only [pv] at h; cases h
     | cons c l =>
       have hp := flat_pos j
       have hq := deep_pos j
       simp only [pv, List.cons_append] at h ⊢
       split at h
       · cases h
       rename_i h1
       rw [if_neg h1, if_neg (by omega), if_neg (by omega)]
       split at h
       · cases h
       split at h
       · cases h
       split at h
       · rename_i h4
         rw [if_pos h4]
         split at h
         · rename_i r1 he
           injection h with h; injection h with e1 e2; subst e1 e2
           have hx := opt1_yes he
           have he2 : endV (c == 123) (l ++ t) = (true, r1 ++ t) := by
            unfold endV at he ⊢
            rw [skip_loc (by rw [hx]; simp), opt1_loc (fun e => by rw [hx] at e; cases e), he]
           rw [he2]
         · rename_i r1 he
           split at h
           · cases h
           rename_i js r2 hpp
           injection h with h; injection h with e1 e2; subst e1 e2
           have hx := opt1_no he
           have hne : skipB l ≠ [] := by
            intro e0
            rw [e0] at hx
            subst hx
            cases f with
            | zero => simp only [pp] at hpp; cases hpp
            | succ f =>
              cases hob : (c == 123)
              · rw [hob] at hpp
                simp only [pp, keyV, if_true, skipB] at hpp
                cases f <;> simp only [pv] at hpp <;> cases hpp
              · rw [hob] at hpp
                simp only [pp, keyM_eq, keyM, skipB, litV] at hpp
                cases hpp
           have he2 : endV (c == 123) (l ++ t) = (false, r1 ++ t) := by
            unfold endV at he ⊢
            rw [skip_loc hne, opt1_loc (fun e => absurd e hne), he]
           rw [he2]
           rw [flat_mk] at hn
           simp only [List.length_cons] at hn
           simp only [J.deep] at hd
           simp only
           rw [ihp g _ _ _ (n' + 1) (d' + 1) _ _ _ t _ hpp ht (by omega) (by omega)]
       · rename_i h4
         rw [if_neg h4]
         have := leafV_loc ht h
         rw [List.cons_append] at this
         exact this
   · rw [show f + 1 + g = (f + g) + 1 by omega]
     simp only [pp] at h ⊢
     split at h
     · cases h
     rename_i k l1 hk
     rw [keyV_loc hk]
     simp only
     split at h
     · cases h
     rename_i j l2 hv
     have hne : skipB l1 ≠ [] := by
      intro e
      rw [e] at hv
      cases f <;> simp only [pv] at hv <;> cases hv
     rw [skip_loc hne]
     split at h
     · cases h
     · rename_i l3 hm
       injection h with h; injection h with e1 e2; subst e1 e2
       rw [flats_one, rekey_len] at hn
       simp only [J.deeps, rk_deep] at hd
       rw [ihv g _ _ n' d' _ _ t _ hv ht hn (by omega)]
       simp only
       rw [moreV_loc hm]
     · rename_i l3 hm
       split at h
       · cases h
       rename_i js2 l4 hpp
       injection h with h; injection h with e1 e2; subst e1 e2
       rw [flats_cons, List.length_append, rekey_len] at hn
       simp only [J.deeps, rk_deep] at hd
       rw [ihv g _ _ n' d' _ _ t _ hv ht (by omega) (by omega)]
       simp only
       rw [moreV_loc hm]
       simp only
       rw [ihp g _ _ _ (n' + j.flat.length) d' _ _ _ t _ hpp ht (by omega) (by omega)]
end Go.Proofs.YthlfljmfggmfdaaGreatDoor
