/-  -/
import Derived.Test.YthlfljmfggmfdaaGreatDoorQk42
import Derived.Test.YthlfljmfggmfdaaGreatDoorQk33
import Derived.Test.YthlfljmfggmfdaaGreatDoorQk10
import Derived.Lib.ItoaNum
import Derived.Test.YthlfljmfggmfdaaGreatDoorQk16
import Derived.Lib.ItoaLen
import Derived.Test.YthlfljmfggmfdaaGreatDoorQk13
import Derived.Test.YthlfljmfggmfdaaGreatDoorQk44
import Derived.Test.YthlfljmfggmfdaaGreatDoorQk21
import Derived.Test.YthlfljmfggmfdaaGreatDoorQk40
/-! ###  -/
namespace Go.Proofs.YthlfljmfggmfdaaGreatDoor
open Go.Lib (decodeN decodeL)
theorem hex1_loc {l r : List UInt8} {k : Nat} (h : hex1 l = .ok (k, r)) (t : List UInt8) : hex1 (l ++ t) = .ok (k, r ++ t) := by
 cases l with
 | nil => cases h
 | cons c l =>
   simp only [hex1, List.cons_append] at h ⊢
   split at h
   · cases h
   · rename_i k' hk
     injection h with h; injection h with h1 h2; subst h1 h2
     rfl
theorem want1_loc {x : UInt8} {l r : List UInt8} (h : want1 x l = .ok r) (t : List UInt8) : want1 x (l ++ t) = .ok (r ++ t) := by
 cases l with
 | nil => cases h
 | cons c l =>
   simp only [want1, List.cons_append] at h ⊢
   split at h
   · rename_i hc
     injection h with h; subst h
     rw [if_pos hc]
   · cases h
theorem half4_loc {s : Bool} {l r : List UInt8} {k : Nat} (h : half4 s l = .ok (k, r)) (t : List UInt8) : half4 s (l ++ t) = .ok (k, r ++ t) := by
 unfold half4 at h ⊢
 split at h
 · cases h
 rename_i a l1 h1
 rw [hex1_loc h1 t]
 simp only
 split at h
 · cases h
 rename_i c1
 rw [if_neg c1]
 split at h
 · cases h
 rename_i b l2 h2
 rw [hex1_loc h2 t]
 simp only
 split at h
 · cases h
 rename_i c2
 rw [if_neg c2]
 split at h
 · cases h
 rename_i c l3 h3
 rw [hex1_loc h3 t]
 simp only
 split at h
 · cases h
 rename_i d l4 h4
 rw [hex1_loc h4 t]
 injection h with h; injection h with e1 e2; subst e1 e2
 rfl
theorem wordV_loc : ∀ {x l r : List UInt8}, wordV x l = .ok r → ∀ t, wordV x (l ++ t) = .ok (r ++ t)
 | [], l, r, h, t => by simp only [wordV] at h ⊢; injection h with h; subst h; rfl
 | _ :: _, [], _, h, _ => by cases h
 | x :: xs, c :: l, r, h, t => by
   simp only [wordV, List.cons_append] at h ⊢
   split at h
   · rename_i hc
     rw [if_pos hc]
     exact wordV_loc h t
   · cases h
theorem dec_loc (l t : List UInt8) (hne : l ≠ []) (h : ¬ ((decodeL l).1 = 65533 ∧ (decodeL l).2 = 1)) : decodeL (l ++ t) = decodeL l := by
 rw [Lib.decodeL_N] at h
 rw [Lib.decodeL_N, Lib.decodeL_N]
 rcases Lib.decodeN_shape l.length (l.getD 0 0).toNat (l.getD 1 0).toNat (l.getD 2 0).toNat (l.getD 3 0).toNat with ⟨c, e⟩ | ⟨c1, c2, c3, cv, e⟩ | ⟨c1, c2, c3, c4, cv, cs, e⟩ | ⟨c1, c2, c3, c4, c5, cv, cw, e⟩ | e
 · rw [e]
   match l, hne with
   | a :: l, _ =>
     simp only [List.cons_append, List.getD_cons_zero] at c ⊢
     unfold decodeN
     rw [if_pos c]
 · rw [e]
   match l, c2 with
   | a :: b :: l, _ =>
     simp only [List.cons_append, List.getD_cons_zero, List.getD_cons_succ, List.length_cons] at c1 c3 cv ⊢
     unfold decodeN
     rw [if_neg (by omega), if_pos ⟨c1, by omega, c3⟩, if_pos cv]
 · rw [e]
   obtain ⟨a, b, d, l, rfl⟩ := three_of c2
   simp only [List.cons_append, List.getD_cons_zero, List.getD_cons_succ, List.length_cons] at c1 c3 c4 cv cs ⊢
   unfold decodeN
   rw [if_neg (by omega), if_neg (by omega), if_pos ⟨c1, ⟨by omega, c3⟩, by omega, c4⟩, if_pos ⟨cv, by omega⟩]
 · rw [e]
   obtain ⟨a, b, d, f, l, rfl⟩ := four_of c2
   simp only [List.cons_append, List.getD_cons_zero, List.getD_cons_succ, List.length_cons] at c1 c3 c4 c5 cv cw ⊢
   unfold decodeN
   rw [if_neg (by omega), if_neg (by omega), if_neg (by omega), if_pos ⟨c1, ⟨by omega, c3⟩, ⟨by omega, c4⟩, by omega, c5⟩, if_pos ⟨cv, by omega⟩]
 · rw [e] at h
   exact absurd ⟨rfl, rfl⟩ h
theorem runeN_loc (l t : List UInt8) (hne : l ≠ []) (h : runeN l ≠ 0) : runeN (l ++ t) = runeN l ∧ runeN l ≤ l.length := by
 have hr : ¬ Utf8.decode (bT l) 0 = (65533, 1) := by
  intro e
  apply h
  unfold runeN
  rw [if_pos e]
 have e1 : runeN l = (decodeL l).2 := by
  unfold runeN
  rw [if_neg hr]
  rfl
 have hb : ¬ ((decodeL l).1 = 65533 ∧ (decodeL l).2 = 1) := fun k => hr (show decodeL l = (65533, 1) from Prod.ext k.1 k.2)
 have e2 := dec_loc l t hne hb
 have e3 : runeN (l ++ t) = (decodeL (l ++ t)).2 := by
  unfold runeN
  rw [if_neg (by
   intro k
   apply hr
   have k2 : decodeL (l ++ t) = (65533, 1) := k
   rw [e2] at k2
   exact k2)]
  rfl
 exact ⟨by rw [e3, e2, e1], by rw [e1]; exact Lib.decodeL_le l hne⟩
theorem ok_tail {x u y r : List UInt8} (h : (Except.ok (x, y) : Except Int (List UInt8 × List UInt8)) = .ok (u, r)) (t : List UInt8) : (Except.ok (x, y ++ t) : Except Int (List UInt8 × List UInt8)) = .ok (u, r ++ t) := by
 injection h with h
 injection h with h1 h2
 rw [h1, h2]
theorem escV_loc {l r u : List UInt8} (h : escV l = .ok (u, r)) (t : List UInt8) : escV (l ++ t) = .ok (u, r ++ t) := by
 cases l with
 | nil => cases h
 | cons c l =>
   simp only [escV, List.cons_append] at h ⊢
   split at h
   · rename_i hc
     injection h with h; injection h with h1 h2; subst h1 h2
     rw [if_pos hc]
   rename_i hc
   rw [if_neg hc]
   split at h
   · exact ok_tail h t
   split at h
   · cases h
   rename_i hu
   rw [if_neg hu]
   split at h
   · cases h
   rename_i n r1 h1
   rw [half4_loc h1 t]
   simp only
   split at h
   · rename_i hh
     rw [if_pos hh]
     split at h
     · cases h
     rename_i r2 h2
     rw [want1_loc h2 t]
     simp only
     split at h
     · cases h
     rename_i r3 h3
     rw [want1_loc h3 t]
     simp only
     split at h
     · cases h
     rename_i k r4 h4
     rw [half4_loc h4 t]
     exact ok_tail h t
   · rename_i hh
     rw [if_neg hh]
     exact ok_tail h t
theorem pieceV_loc {l r u : List UInt8} (h : pieceV l = .ok (u, r)) (t : List UInt8) : pieceV (l ++ t) = .ok (u, r ++ t) := by
 cases l with
 | nil => cases h
 | cons c l =>
   simp only [pieceV, List.cons_append] at h ⊢
   split at h
   · rename_i hc
     rw [if_pos hc]
     exact escV_loc h t
   rename_i hc
   rw [if_neg hc]
   simp only [plainV] at h ⊢
   split at h
   · cases h
   rename_i h32
   rw [if_neg h32]
   split at h
   · rename_i hn
     injection h with h; injection h with h1 h2; subst h1 h2
     obtain ⟨e1, e2⟩ := runeN_loc (c :: l) t (by simp) hn
     rw [List.cons_append] at e1
     rw [e1, if_pos hn, ← List.cons_append, List.take_append_of_le_length e2, List.drop_append_of_le_length e2]
   · split at h <;> cases h
theorem unqB_loc : ∀ (f : Nat) (l r u : List UInt8), unqB f l = .ok (u, r) → ∀ t, unqB f (l ++ t) = .ok (u, r ++ t)
 | 0, _, _, _, h, _ => by cases h
 | f + 1, [], _, _, h, _ => by cases h
 | f + 1, c :: l, r, u, h, t => by
   simp only [unqB, List.cons_append] at h ⊢
   split at h
   · rename_i hc
     injection h with h; injection h with h1 h2; subst h1 h2
     rw [if_pos hc]
   rename_i hc
   rw [if_neg hc]
   split at h
   · cases h
   rename_i t1 r1 h1
   have h1' := pieceV_loc h1 t
   rw [List.cons_append] at h1'
   rw [h1']
   simp only
   split at h
   · cases h
   rename_i v r2 h2
   rw [unqB_loc f r1 r2 v h2 t]
   injection h with h; injection h with e1 e2; subst e1 e2
   rfl
theorem unqV_loc {l r u : List UInt8} (h : unqV l = .ok (u, r)) (t : List UInt8) : unqV (l ++ t) = .ok (u, r ++ t) := by
 cases l with
 | nil => cases h
 | cons c l =>
   simp only [unqV, List.cons_append] at h ⊢
   split at h
   · cases h
   rename_i hc
   rw [if_neg hc]
   have h1 := unqB_loc _ _ _ _ h t
   have h2 := unqB_more ((l ++ t).length + 1) (l.length + 1 + t.length) (l ++ t) (by omega) (by simp only [List.length_append]; omega)
   rw [h2]
   have mono : ∀ (f g : Nat) (x y v : List UInt8), unqB f x = .ok (v, y) → unqB (f + g) x = .ok (v, y) := by
    intro f
    induction f with
    | zero => intro g x y v hx; cases hx
    | succ f ih =>
      intro g x y v hx
      rw [show f + 1 + g = (f + g) + 1 by omega]
      cases x with
      | nil => cases hx
      | cons c x =>
        simp only [unqB] at hx ⊢
        split at hx
        · rename_i hc
          rw [if_pos hc]
          exact hx
        rename_i hc
        rw [if_neg hc]
        split at hx
        · cases hx
        rename_i t1 r1 h1
        split at hx
        · cases hx
        rename_i u2 r2 h2
        rw [ih g _ _ _ h2]
        exact hx
   exact mono _ _ _ _ _ h1
theorem litV_loc {l r u : List UInt8} (h : litV l = .ok (u, r)) (t : List UInt8) : litV (l ++ t) = .ok (u, r ++ t) := by
 cases l with
 | nil => cases h
 | cons c l =>
   simp only [litV, List.cons_append] at h ⊢
   split at h
   · cases h
   rename_i hc
   rw [if_neg hc]
   split at h
   · cases h
   · rename_i x hx
     injection h with h
     subst h
     have := unqV_loc hx t
     rw [List.cons_append] at this
     rw [this]
end Go.Proofs.YthlfljmfggmfdaaGreatDoor
namespace Go.Proofs.YthlfljmfggmfdaaGreatDoor
open Go.Lib (decDigits itoa)
def Stops (r : List UInt8) : Prop := match r with | [] => True | c :: _ => isDig c = false
end Go.Proofs.YthlfljmfggmfdaaGreatDoor
namespace Go.Proofs.YthlfljmfggmfdaaGreatDoor
def Free (t : List UInt8) : Prop := match t with | [] => True | c :: _ => isDig c = false ∧ c ≠ 46 ∧ c ≠ 101 ∧ c ≠ 69
theorem Free.stops {t : List UInt8} (h : Free t) : Stops t := by
 cases t with
 | nil => trivial
 | cons c t => exact h.1
theorem digs_loc {t : List UInt8} (ht : Stops t) : ∀ l : List UInt8, digsOf (l ++ t) = digsOf l ∧ digsEnd (l ++ t) = digsEnd l ++ t
 | [] => by
   cases t with
   | nil => exact ⟨rfl, rfl⟩
   | cons c t =>
     have h : isDig c = false := ht
     simp [digsOf, digsEnd, h]
 | c :: l => by
   obtain ⟨h1, h2⟩ := digs_loc ht l
   simp only [List.cons_append, digsOf, digsEnd]
   split
   · rw [h1, h2]; exact ⟨rfl, rfl⟩
   · exact ⟨rfl, rfl⟩
theorem digs1_loc {l d r t : List UInt8} (ht : Stops t) (h : digs1 l = .ok (d, r)) : digs1 (l ++ t) = .ok (d, r ++ t) := by
 obtain ⟨h1, h2⟩ := digs_loc ht l
 unfold digs1 at h ⊢
 rw [h1, h2]
 split at h
 · cases h
 · rename_i hd
   injection h with h; injection h with e1 e2; subst e1 e2
   rw [if_neg hd]
theorem opt1_loc {x : UInt8} {l t : List UInt8} (ht : l = [] → ∀ c r, t = c :: r → c ≠ x) : opt1 x (l ++ t) = ((opt1 x l).1, (opt1 x l).2 ++ t) := by
 cases l with
 | nil =>
   cases t with
   | nil => rfl
   | cons c t => simp [opt1, ht rfl c t rfl]
 | cons c l =>
   simp only [List.cons_append, opt1]
   split <;> rfl
theorem opt2_loc {x y : UInt8} {l t : List UInt8} (ht : l = [] → ∀ c r, t = c :: r → c ≠ x ∧ c ≠ y) : opt2 x y (l ++ t) = ((opt2 x y l).1, (opt2 x y l).2 ++ t) := by
 cases l with
 | nil =>
   cases t with
   | nil => rfl
   | cons c t =>
     obtain ⟨h1, h2⟩ := ht rfl c t rfl
     simp [opt2, h1, h2]
 | cons c l =>
   simp only [List.cons_append, opt2]
   split <;> rfl
theorem digs1_ne {l d r : List UInt8} (h : digs1 l = .ok (d, r)) : l ≠ [] := by
 rintro rfl
 cases h
theorem wholeV_loc {l d r t : List UInt8} (ht : Free t) (h : wholeV l = .ok (d, r)) : wholeV (l ++ t) = .ok (d, r ++ t) := by
 have hne : l ≠ [] := by
  rintro rfl
  cases h
 unfold wholeV at h ⊢
 rw [opt1_loc (fun e => absurd e hne)]
 cases ho : opt1 48 l with
 | mk b r1 =>
   rw [ho] at h
   cases b with
   | true =>
     simp only at h ⊢
     injection h with h; injection h with e1 e2; subst e1 e2
     rfl
   | false =>
     simp only at h ⊢
     exact digs1_loc ht.stops h
theorem fracV_loc {l r t : List UInt8} {f : Bool} (ht : Free t) (h : fracV l = .ok (f, r)) : fracV (l ++ t) = .ok (f, r ++ t) := by
 unfold fracV at h ⊢
 rw [opt1_loc (fun _ c q e => by subst e; exact ht.2.1)]
 cases ho : opt1 46 l with
 | mk b r1 =>
   rw [ho] at h
   cases b with
   | true =>
     simp only at h ⊢
     split at h
     · cases h
     · rename_i d r2 h1
       rw [digs1_loc ht.stops h1]
       injection h with h; injection h with e1 e2; subst e1 e2
       rfl
   | false =>
     simp only at h ⊢
     injection h with h; injection h with e1 e2; subst e1 e2
     rfl
theorem expV_loc {l r t : List UInt8} {f : Bool} (ht : Free t) (h : expV l = .ok (f, r)) : expV (l ++ t) = .ok (f, r ++ t) := by
 unfold expV at h ⊢
 rw [opt2_loc (fun _ c q e => by subst e; exact ⟨ht.2.2.1, ht.2.2.2⟩)]
 cases ho : opt2 101 69 l with
 | mk b r1 =>
   rw [ho] at h
   cases b with
   | true =>
     simp only at h ⊢
     split at h
     · cases h
     · rename_i d r2 h1
       have hne : r1 ≠ [] := by
        rintro rfl
        exact digs1_ne h1 rfl
       rw [opt2_loc (fun e => absurd e hne), digs1_loc ht.stops h1]
       injection h with h; injection h with e1 e2; subst e1 e2
       rfl
   | false =>
     simp only at h ⊢
     injection h with h; injection h with e1 e2; subst e1 e2
     rfl
theorem numV_loc {l r t : List UInt8} {n : Int} (ht : Free t) (h : numV l = .ok (n, r)) : numV (l ++ t) = .ok (n, r ++ t) := by
 have hne : l ≠ [] := by
  rintro rfl
  cases h
 unfold numV at h ⊢
 rw [opt1_loc (fun e => absurd e hne)]
 simp only
 split at h
 · cases h
 rename_i ds l2 h1
 rw [wholeV_loc ht h1]
 simp only
 split at h
 · cases h
 rename_i f l3 h2
 rw [fracV_loc ht h2]
 simp only
 split at h
 · cases h
 rename_i e l4 h3
 rw [expV_loc ht h3]
 simp only
 split at h
 · cases h
 · rename_i hc
   rw [if_neg hc]
   injection h with h; injection h with e1 e2; subst e1 e2
   rfl
theorem leafV_loc {c : UInt8} {l r t : List UInt8} {j : J} (ht : Free t) (h : leafV c l = .ok (j, r)) : leafV c (l ++ t) = .ok (j, r ++ t) := by
 unfold leafV at h ⊢
 split at h
 · rename_i h1
   rw [if_pos h1]
   split at h
   · cases h
   · rename_i hw
     rw [wordV_loc hw t]
     injection h with h; injection h with e1 e2; subst e1 e2
     rfl
 rename_i h1
 rw [if_neg h1]
 split at h
 · rename_i h2
   rw [if_pos h2]
   split at h
   · cases h
   · rename_i hw
     rw [wordV_loc hw t]
     injection h with h; injection h with e1 e2; subst e1 e2
     rfl
 rename_i h2
 rw [if_neg h2]
 split at h
 · rename_i h3
   rw [if_pos h3]
   split at h
   · cases h
   · rename_i hw
     rw [wordV_loc hw t]
     injection h with h; injection h with e1 e2; subst e1 e2
     rfl
 rename_i h3
 rw [if_neg h3]
 split at h
 · rename_i h4
   rw [if_pos h4]
   split at h
   · cases h
   · rename_i hw
     rw [litV_loc hw t]
     injection h with h; injection h with e1 e2; subst e1 e2
     rfl
 · rename_i h4
   rw [if_neg h4]
   split at h
   · cases h
   · rename_i hw
     rw [numV_loc ht hw]
     injection h with h; injection h with e1 e2; subst e1 e2
     rfl
end Go.Proofs.YthlfljmfggmfdaaGreatDoor
namespace Go.Proofs.YthlfljmfggmfdaaGreatDoor
theorem skip_loc {t : List UInt8} : ∀ {l : List UInt8}, skipB l ≠ [] → skipB (l ++ t) = skipB l ++ t
 | [], h => absurd rfl h
 | c :: l, h => by
   simp only [skipB, List.cons_append] at h ⊢
   split
   · rename_i hb
     rw [if_pos hb] at h
     exact skip_loc h
   · rfl
theorem moreV_loc {obj b : Bool} {l r t : List UInt8} (h : moreV obj l = .ok (b, r)) : moreV obj (l ++ t) = .ok (b, r ++ t) := by
 unfold moreV at h ⊢
 cases hs : skipB l with
 | nil => rw [hs] at h; cases h
 | cons c q =>
   rw [hs] at h
   rw [skip_loc (by rw [hs]; simp), hs]
   simp only [List.cons_append] at h ⊢
   split at h
   · rename_i hc
     rw [if_pos hc]
     injection h with h; injection h with e1 e2; subst e1 e2
     rfl
   rename_i hc
   rw [if_neg hc]
   split at h
   · rename_i hc2
     rw [if_pos hc2]
     injection h with h; injection h with e1 e2; subst e1 e2
     rfl
   · cases h
theorem keyV_loc {obj : Bool} {had : List ByteArray} {l r t : List UInt8} {k : ByteArray} (h : keyV obj had l = .ok (k, r)) : keyV obj had (l ++ t) = .ok (k, r ++ t) := by
 cases obj with
 | false =>
   simp only [keyV, if_true] at h ⊢
   injection h with h; injection h with e1 e2; subst e1 e2
   rfl
 | true =>
   rw [keyM_eq] at h ⊢
   unfold keyM at h ⊢
   split at h
   · cases h
   rename_i s r1 h1
   have hne : skipB l ≠ [] := by
    intro e
    rw [e] at h1
    cases h1
   rw [skip_loc hne, litV_loc h1 t]
   simp only
   split at h
   · cases h
   rename_i hk
   rw [if_neg hk]
   split at h
   · cases h
   rename_i r2 hw
   have hne2 : skipB r1 ≠ [] := by
    intro e
    rw [e] at hw
    cases hw
   rw [skip_loc hne2, wordV_loc hw t]
   injection h with h; injection h with e1 e2; subst e1 e2
   rfl
theorem loc_both : ∀ f : Nat, (∀ (g n d n' d' : Nat) (l r t : List UInt8) (j : J), pv f n d l = .ok (j, r) → Free t → n' + j.flat.length ≤ 4000 → d' + j.deep ≤ 64 → pv (f + g) n' d' (l ++ t) = .ok (j, r ++ t)) ∧
 ∀ (g : Nat) (obj : Bool) (n d n' d' : Nat) (had : List ByteArray) (l r t : List UInt8) (js : List J), pp f obj n d had l = .ok (js, r) → Free t → n' + (J.flats js).length ≤ 4000 → d' + J.deeps js ≤ 64 → pp (f + g) obj n' d' had (l ++ t) = .ok (js, r ++ t)
 | 0 => by
   refine ⟨fun _ _ _ _ _ _ _ _ _ h => ?_, fun _ _ _ _ _ _ _ _ _ _ _ h => ?_⟩
   · simp only [pv] at h; cases h
   · simp only [pp] at h; cases h
 | f + 1 => by
   obtain ⟨ihv, ihp⟩ := loc_both f
   refine ⟨fun g n d n' d' l r t j h ht hn hd => ?_, fun g obj n d n' d' had l r t js h ht hn hd => ?_⟩
   · rw [show f + 1 + g = (f + g) + 1 by omega]
     cases l with
     | nil => simp only [pv] at h; cases h
     | cons c l =>
       have hp := flat_pos j
       have hq := deep_pos j
       simp only [pv, List.cons_append] at h ⊢
       split at h
       · cases h
       rename_i h1
       rw [if_neg h1, if_neg (by omega), if_neg (by omega)]
       split at h
       · cases h
       split at h
       · cases h
       split at h
       · rename_i h4
         rw [if_pos h4]
         split at h
         · rename_i r1 he
           injection h with h; injection h with e1 e2; subst e1 e2
           have hx := opt1_yes he
           have he2 : endV (c == 123) (l ++ t) = (true, r1 ++ t) := by
            unfold endV at he ⊢
            rw [skip_loc (by rw [hx]; simp), opt1_loc (fun e => by rw [hx] at e; cases e), he]
           rw [he2]
         · rename_i r1 he
           split at h
           · cases h
           rename_i js r2 hpp
           injection h with h; injection h with e1 e2; subst e1 e2
           have hx := opt1_no he
           have hne : skipB l ≠ [] := by
            intro e0
            rw [e0] at hx
            subst hx
            cases f with
            | zero => simp only [pp] at hpp; cases hpp
            | succ f =>
              cases hob : (c == 123)
              · rw [hob] at hpp
                simp only [pp, keyV, if_true, skipB] at hpp
                cases f <;> simp only [pv] at hpp <;> cases hpp
              · rw [hob] at hpp
                simp only [pp, keyM_eq, keyM, skipB, litV] at hpp
                cases hpp
           have he2 : endV (c == 123) (l ++ t) = (false, r1 ++ t) := by
            unfold endV at he ⊢
            rw [skip_loc hne, opt1_loc (fun e => absurd e hne), he]
           rw [he2]
           rw [flat_mk] at hn
           simp only [List.length_cons] at hn
           simp only [J.deep] at hd
           simp only
           rw [ihp g _ _ _ (n' + 1) (d' + 1) _ _ _ t _ hpp ht (by omega) (by omega)]
       · rename_i h4
         rw [if_neg h4]
         have := leafV_loc ht h
         rw [List.cons_append] at this
         exact this
   · rw [show f + 1 + g = (f + g) + 1 by omega]
     simp only [pp] at h ⊢
     split at h
     · cases h
     rename_i k l1 hk
     rw [keyV_loc hk]
     simp only
     split at h
     · cases h
     rename_i j l2 hv
     have hne : skipB l1 ≠ [] := by
      intro e
      rw [e] at hv
      cases f <;> simp only [pv] at hv <;> cases hv
     rw [skip_loc hne]
     split at h
     · cases h
     · rename_i l3 hm
       injection h with h; injection h with e1 e2; subst e1 e2
       rw [flats_one, rekey_len] at hn
       simp only [J.deeps, rk_deep] at hd
       rw [ihv g _ _ n' d' _ _ t _ hv ht hn (by omega)]
       simp only
       rw [moreV_loc hm]
     · rename_i l3 hm
       split at h
       · cases h
       rename_i js2 l4 hpp
       injection h with h; injection h with e1 e2; subst e1 e2
       rw [flats_cons, List.length_append, rekey_len] at hn
       simp only [J.deeps, rk_deep] at hd
       rw [ihv g _ _ n' d' _ _ t _ hv ht (by omega) (by omega)]
       simp only
       rw [moreV_loc hm]
       simp only
       rw [ihp g _ _ _ (n' + j.flat.length) d' _ _ _ t _ hpp ht (by omega) (by omega)]
end Go.Proofs.YthlfljmfggmfdaaGreatDoor

/-! ###  -/
namespace Go.Proofs.YthlfljmfggmfdaaGreatDoor
theorem skip_all {r t : List UInt8} (h : skipB r = []) : skipB (r ++ t) = skipB t := by
 induction r with
 | nil => rfl
 | cons c r ih =>
   simp only [skipB, List.cons_append] at h ⊢
   split
   · rename_i hb
     rw [if_pos hb] at h
     exact ih h
   · rename_i hb
     rw [if_neg hb] at h
     cases h
theorem parse_in {l t : List UInt8} {j : J} {n d g : Nat} (h : parseV l = .ok j) (ht : Free t) (hn : n + j.flat.length ≤ 4000) (hd : d + j.deep ≤ 64) :
 ∃ r, skipB r = [] ∧ skipB l ≠ [] ∧ pv (fuelOf l + g) n d (skipB l ++ t) = .ok (j, r ++ t) := by
 unfold parseV at h
 split at h
 · cases h
 split at h
 · cases h
 rename_i j' r hp
 split at h
 · rename_i hr
   injection h with h
   subst h
   refine ⟨r, hr, ?_, (loc_both _).1 g _ _ n d _ _ t _ hp ht hn hd⟩
   intro e
   rw [e] at hp
   unfold fuelOf at hp
   simp only [pv] at hp
   cases hp
 · cases h
def KeyText (kt k : List UInt8) : Prop := ∀ (had : List ByteArray) (r : List UInt8), bT k ∉ had → keyV true had (kt ++ r) = .ok (bT k, r)
structure Mem where
 kt : List UInt8
 k : List UInt8
 l : List UInt8
 j : J
def Mem.key (p : Mem) : ByteArray := bT p.k
def Mem.piece (p : Mem) : List UInt8 := p.kt ++ p.l
structure Mem.Ok (p : Mem) : Prop where
 val : parseV p.l = .ok p.j
 key : KeyText p.kt p.k
theorem KeyText.ne {kt k : List UInt8} (h : KeyText kt k) (r : List UInt8) : ∃ x, skipB (kt ++ r) = 34 :: x := by
 have h1 := h [] r (by simp)
 unfold keyV at h1
 rw [if_neg (by decide)] at h1
 cases hs : skipB (kt ++ r) with
 | nil => rw [hs] at h1; cases h1
 | cons c x =>
   rw [hs] at h1
   unfold litV at h1
   simp only at h1
   by_cases hc : c = 34
   · exact ⟨x, by rw [hc]⟩
   · rw [if_pos hc] at h1; cases h1
theorem begins {l : List UInt8} {j : J} (h : parseV l = .ok j) : ∃ c r, skipB l = c :: r ∧ begB c = true := by
 unfold parseV at h
 split at h
 · cases h
 split at h
 · cases h
 rename_i hp
 unfold fuelOf at hp
 cases hs : skipB l with
 | nil => rw [hs] at hp; simp only [pv] at hp; cases hp
 | cons c r =>
   refine ⟨c, r, rfl, ?_⟩
   rw [hs] at hp
   simp only [pv] at hp
   split at hp
   · cases hp
   rename_i hb
   simpa using hb
theorem parse_of_pv {l : List UInt8} {j : J} (h : l.length ≤ 1048576) (hs : skipB l = l) (hp : pv (fuelOf l) 0 0 l = .ok (j, [])) : parseV l = .ok j := by
 unfold parseV
 rw [if_neg (by omega), hs, hp]
 rfl
def accL (c : UInt8) : List (List UInt8) → List UInt8
 | [] => [c]
 | l :: ls => c :: l ++ (ls.flatMap fun m => 44 :: m)
theorem accL_snoc (c : UInt8) (ls : List (List UInt8)) (m : List UInt8) : accL c (ls ++ [m]) = (if ls = [] then accL c ls else accL c ls ++ [44]) ++ m := by
 cases ls with
 | nil => simp [accL]
 | cons l ls =>
   rw [if_neg (by simp)]
   simp [accL, List.flatMap_append]
end Go.Proofs.YthlfljmfggmfdaaGreatDoor
namespace Go.Proofs.YthlfljmfggmfdaaGreatDoor
def jsM (ps : List Mem) : List J := ps.map Mem.j
structure Mem.Few (p : Mem) : Prop where
 ok : p.Ok
 len : p.l.length ≤ 100
 plen : p.piece.length ≤ 104
 key : vU p.key = true
end Go.Proofs.YthlfljmfggmfdaaGreatDoor
namespace Go.Proofs.YthlfljmfggmfdaaGreatDoor
open Go.Lib (decDigits itoa)
section
variable {n : Int} {d : List UInt8}
end
end Go.Proofs.YthlfljmfggmfdaaGreatDoor
namespace Go.Proofs.YthlfljmfggmfdaaGreatDoor
open Go.Lib (decDigits itoa)
def Cut {α : Type} (p : List UInt8) (x : Except Bad α) : Prop := x = .error ([], 70) ∨ ∃ q r, p = q ++ 34 :: r ∧ x = .error (34 :: r, 3)
theorem Cut.pre {α : Type} {p : List UInt8} {x : Except Bad α} (q : List UInt8) (h : Cut p x) : Cut (q ++ p) x := by
 rcases h with h | ⟨u, r, h1, h2⟩
 · exact .inl h
 · exact .inr ⟨q ++ u, r, by rw [h1, List.append_assoc], h2⟩
theorem app_cut {a b x y : List UInt8} (h : a ++ b = x ++ y) : (∃ c, c ≠ [] ∧ a = x ++ c) ∨ ∃ x', x = a ++ x' ∧ b = x' ++ y := by
 rcases List.append_eq_append_iff.1 h with ⟨u, h1, h2⟩ | ⟨u, h1, h2⟩
 · exact .inr ⟨u, h1, h2⟩
 · by_cases hu : u = []
   · subst hu
     exact .inr ⟨[], by simpa using h1.symm, by simpa using h2.symm⟩
   · exact .inl ⟨u, hu, h1⟩
def Blanks (b : List UInt8) : Prop := ∀ c ∈ b, isBlank c = true
theorem Blanks.skip {b : List UInt8} (h : Blanks b) (l : List UInt8) : skipB (b ++ l) = skipB l := by
 induction b with
 | nil => rfl
 | cons c b ih =>
   simp only [List.cons_append, skipB]
   rw [if_pos (h c (List.mem_cons_self ..)), ih fun x hx => h x (List.mem_cons_of_mem _ hx)]
theorem Blanks.none {b : List UInt8} (h : Blanks b) : skipB b = [] := by
 have := h.skip []
 rwa [List.append_nil] at this
theorem Blanks.pre {b x c : List UInt8} (h : Blanks b) (e : b = x ++ c) : Blanks x := fun y hy => h y (by rw [e]; exact List.mem_append_left _ hy)
theorem Blanks.free {b : List UInt8} (h : Blanks b) {t : List UInt8} (ht : Free t) : Free (b ++ t) := by
 cases b with
 | nil => exact ht
 | cons c b =>
   have h1 := h c (List.mem_cons_self ..)
   unfold isBlank at h1
   simp only [Bool.or_eq_true, beq_iff_eq] at h1
   unfold Free
   simp only [List.cons_append]
   rcases h1 with ((rfl | rfl) | rfl) | rfl <;> decide
theorem Free.nil_ : Free [] := by unfold Free; trivial
theorem pv_nil (f n d : Nat) : pv (f + 1) n d [] = .error ([], 70) := by simp only [pv]
structure Txt (l : List UInt8) (j : J) : Prop where
 val : parseV l = .ok j
 skip : skipB l = l
 cut : ∀ p q, l = p ++ q → q ≠ [] → ∀ f n d, 2 * p.length + 2 ≤ f → n + j.flat.length ≤ 4000 → d + j.deep ≤ 64 → Cut p (pv f n d p) ∨ (j.hd.kind = 4 ∧ ∃ j', pv f n d p = .ok (j', []))
 any : j.hd.kind ≠ 4 → ∀ t f n d, fuelOf l ≤ f → n + j.flat.length ≤ 4000 → d + j.deep ≤ 64 → pv f n d (l ++ t) = .ok (j, t)
theorem Txt.ne {l : List UInt8} {j : J} (h : Txt l j) : l ≠ [] := by
 rintro rfl
 have := h.val
 cases this
structure KeyTxt (kt k : List UInt8) : Prop where
 key : KeyText kt k
 cut : ∀ p q, kt = p ++ q → q ≠ [] → ∀ had, bT k ∉ had → Cut p (keyV true had p) ∨ ∃ b, Blanks b ∧ keyV true had p = .ok (bT k, b)
structure Mid (l : List UInt8) (j : J) : Prop where
 mid : ∃ b v b', l = b ++ (v ++ b') ∧ Blanks b ∧ Blanks b' ∧ Txt v j
theorem parse_mid {l : List UInt8} {j : J} (h : Mid l j) (hl : l.length ≤ 1048576) : parseV l = .ok j := by
 obtain ⟨b, v, b', rfl, hb, hb', hv⟩ := h
 obtain ⟨m1, m2, m3⟩ := parseV_may hv.val
 simp only [List.length_append] at hl
 obtain ⟨r, h1, h2, h3⟩ := parse_in (t := b') (n := 0) (d := 0) (g := 2 * b.length + 2 * b'.length) hv.val (by have := hb'.free Free.nil_; rwa [List.append_nil] at this) (by omega) (by omega)
 unfold parseV
 rw [if_neg (by simp only [List.length_append]; omega), hb.skip, skip_loc h2, show fuelOf (b ++ (v ++ b')) = fuelOf v + (2 * b.length + 2 * b'.length) by unfold fuelOf; simp only [List.length_append]; omega, h3]
 simp only
 rw [skip_all h1, hb'.none]
structure MemT (obj : Bool) (p : Mem) : Prop where
 mid : Mid p.l p.j
 len : p.l.length ≤ 1048576
 key : obj = true → KeyTxt p.kt p.k
 nokey : obj = false → p.kt = []
theorem MemT.ok {p : Mem} (h : MemT true p) : p.Ok := ⟨parse_mid h.mid h.len, (h.key rfl).key⟩
theorem txt_may {l : List UInt8} {j : J} (h : parseV l = .ok j) : j.flat.length ≤ 4000 ∧ j.deep ≤ 64 := (parseV_may h).2
end Go.Proofs.YthlfljmfggmfdaaGreatDoor
namespace Go.Proofs.YthlfljmfggmfdaaGreatDoor
open Go.Lib (decDigits itoa)
theorem pv_leaf {f n d : Nat} {c : UInt8} {r : List UInt8} (hb : begB c = true) (h1 : c ≠ 91) (h2 : c ≠ 123) (hn : n < 4000) (hd : d < 64) : pv (f + 1) n d (c :: r) = leafV c (c :: r) := by
 rw [pv]
 rw [if_neg (by rw [hb]; decide), if_neg (by omega), if_neg (by omega), if_neg (by rintro (h | h); exact h1 h; exact h2 h)]
theorem one_len (k n : Int) (s : ByteArray) : (oneJ k n s).flat.length = 1 := by simp [oneJ, J.flat, J.flats]
theorem one_deep (k n : Int) (s : ByteArray) : (oneJ k n s).deep = 1 := by simp [oneJ, J.deep, J.deeps]
theorem leaf_txt {c : UInt8} {r : List UInt8} {k n : Int} {s : ByteArray} (hb : begB c = true) (h1 : c ≠ 91) (h2 : c ≠ 123) (hs : isBlank c = false) (hl : r.length ≤ 1000) (h : leafV c (c :: r) = .ok (oneJ k n s, []))
 (hany : k ≠ 4 → ∀ t, leafV c (c :: (r ++ t)) = .ok (oneJ k n s, t)) (hcut : ∀ p q, r = p ++ q → q ≠ [] → Cut (c :: p) (leafV c (c :: p)) ∨ (k = 4 ∧ ∃ j', leafV c (c :: p) = .ok (j', []))) : Txt (c :: r) (oneJ k n s) := by
 have hsk : ∀ t, skipB (c :: t) = c :: t := fun t => by simp only [skipB]; rw [if_neg (by rw [hs]; decide)]
 refine ⟨?_, hsk r, ?_, ?_⟩
 · refine parse_of_pv (by simp only [List.length_cons]; omega) (hsk r) ?_
   unfold fuelOf
   rw [pv_leaf hb h1 h2 (by omega) (by omega), h]
 · intro x y hx hy f n' d hf hn hd
   rw [one_len] at hn
   rw [one_deep] at hd
   obtain ⟨g, rfl⟩ : ∃ g, f = g + 1 := ⟨f - 1, by omega⟩
   rcases x with _ | ⟨c', x⟩
   · rw [pv_nil]
     exact .inl (.inl rfl)
   · simp only [List.cons_append, List.cons.injEq] at hx
     obtain ⟨rfl, hx⟩ := hx
     rw [pv_leaf hb h1 h2 (by omega) (by omega)]
     exact hcut x y hx hy
 · intro hk t f n' d hf hn hd
   rw [one_len] at hn
   rw [one_deep] at hd
   unfold fuelOf at hf
   obtain ⟨g, rfl⟩ : ∃ g, f = g + 1 := ⟨f - 1, by omega⟩
   rw [List.cons_append, pv_leaf hb h1 h2 (by omega) (by omega)]
   exact hany hk t
def cutsOk (l : List UInt8) : Bool := (List.range l.length).all fun k => k == 0 || (match unqV (l.take k) with | .error e => e == 3 | .ok _ => false)
theorem lit_cut {r p q : List UInt8} (hc : cutsOk (34 :: r) = true) (h : r = p ++ q) (hq : q ≠ []) : litV (34 :: p) = .error (34 :: p, 3) := by
 have hk : p.length + 1 < (34 :: r).length := by
  have : q.length ≠ 0 := fun h => hq (List.eq_nil_of_length_eq_zero h)
  rw [h]; simp only [List.length_cons, List.length_append]; omega
 have h1 := List.all_eq_true.1 hc (p.length + 1) (List.mem_range.2 hk)
 have ht : (34 :: r).take (p.length + 1) = 34 :: p := by rw [h]; simp
 rw [ht] at h1
 simp only [Bool.or_eq_true, beq_iff_eq] at h1
 have h2 := h1.resolve_left (by omega)
 unfold litV
 simp only
 rw [if_neg (by decide)]
 split at h2
 · rename_i e he
   rw [he]
   simp only
   rw [show e = 3 by simpa using h2]
 · cases h2
theorem lit_txt {r s : List UInt8} (hl : r.length ≤ 1000) (h : litV (34 :: r) = .ok (s, [])) (hc : cutsOk (34 :: r) = true) : Txt (34 :: r) (oneJ 5 0 (bT s)) := by
 have hlf : ∀ x, leafV 34 (34 :: x) = match litV (34 :: x) with | .error b => .error b | .ok (s, r) => .ok (oneJ 5 0 (bT s), r) := fun x => rfl
 refine leaf_txt (by decide) (by decide) (by decide) (by decide) hl (by rw [hlf, h]) (fun _ t => ?_) (fun p q hp hq => .inl ?_)
 · rw [hlf, ← List.cons_append, litV_loc h]
   rfl
 · rw [hlf, lit_cut hc hp hq]
   exact .inr ⟨[], p, rfl, rfl⟩
end Go.Proofs.YthlfljmfggmfdaaGreatDoor
namespace Go.Proofs.YthlfljmfggmfdaaGreatDoor
def says : List ByteArray := [⟨#[]⟩, ⟨#[97]⟩, ⟨#[98, 32, 99]⟩, ⟨#[34]⟩, ⟨#[195, 164]⟩, ⟨#[240, 159, 152, 128]⟩, ⟨#[47]⟩, ⟨#[0]⟩]
structure Lit (l s : List UInt8) : Prop where
 lit : litV l = .ok (s, [])
 cuts : cutsOk l = true
 q : ∃ r, l = 34 :: r
 len : l.length ≤ 15
 may : vU (bT s) = true
theorem Lit.txt {l s : List UInt8} (h : Lit l s) : Txt l (oneJ 5 0 (bT s)) := by
 obtain ⟨r, rfl⟩ := h.q
 exact lit_txt (by have := h.len; simp only [List.length_cons] at this; omega) h.lit h.cuts
theorem Lit.key {l s b0 b1 : List UInt8} (h : Lit l s) (hb0 : Blanks b0) (hb1 : Blanks b1) : KeyTxt (b0 ++ (l ++ (b1 ++ [58]))) s := by
 obtain ⟨r0, hr0⟩ := h.q
 have hsk : ∀ t, skipB (l ++ t) = l ++ t := fun t => by rw [hr0]; rfl
 refine ⟨fun had r hh => ?_, fun p q hpq hq had hh => .inl ?_⟩
 · unfold keyV
   rw [if_neg (by decide), List.append_assoc, hb0.skip, List.append_assoc, hsk, litV_loc h.lit]
   simp only [List.nil_append, List.append_assoc]
   rw [if_neg (by rw [hasKey_not.2 hh]; decide), hb1.skip]
   rfl
 · unfold keyV
   rw [if_neg (by decide)]
   rcases app_cut hpq with ⟨c, _, e⟩ | ⟨p1, rfl, h1⟩
   · rw [(hb0.pre e).none]
     exact .inl rfl
   rw [hb0.skip]
   rcases app_cut h1 with ⟨c, hc, e⟩ | ⟨p2, rfl, h2⟩
   · rcases p1 with _ | ⟨c1, p1⟩
     · exact .inl rfl
     · rw [hr0] at e
       simp only [List.cons_append, List.cons.injEq] at e
       obtain ⟨rfl, e⟩ := e
       rw [show skipB (34 :: p1) = 34 :: p1 from rfl, lit_cut (r := r0) (by rw [← hr0]; exact h.cuts) e hc]
       exact .inr ⟨b0, p1, rfl, rfl⟩
   · rw [hsk, litV_loc h.lit]
     simp only [List.nil_append]
     rw [if_neg (by rw [hasKey_not.2 hh]; decide)]
     have hp2 : Blanks p2 := by
      rcases app_cut h2 with ⟨c, _, e⟩ | ⟨x', rfl, h3⟩
      · exact hb1.pre e
      · have := congrArg List.length h3
        simp only [List.length_cons, List.length_nil, List.length_append] at this
        have hy0 : q.length ≠ 0 := fun h => hq (List.eq_nil_of_length_eq_zero h)
        have : x' = [] := List.eq_nil_of_length_eq_zero (by omega)
        rw [this, List.append_nil]
        exact hb1
     rw [hp2.none]
     exact .inl rfl
end Go.Proofs.YthlfljmfggmfdaaGreatDoor
namespace Go.Proofs.YthlfljmfggmfdaaGreatDoor
theorem bT_len (l : List UInt8) : (bT l).size = l.length := by simp [bT, ByteArray.size]
def preT (ps : List Mem) (T : List UInt8) : List UInt8 := if ps = [] then [] else T ++ [44]
structure KidsJ (obj : Bool) (deep n0 i m : Nat) (ps : List Mem) (T : List UInt8) : Prop where
 mem : ∀ p ∈ ps, MemT obj p
 zero : ps = [] → Blanks T ∧ T.length ≤ 3
 more : ps ≠ [] → ∀ c, c :: T = accL c (ps.map Mem.piece)
 deeps : J.deeps (jsM ps) + deep ≤ 7
 len : ps.length + i ≤ 4
 size : (J.flats (jsM ps)).length + 2 * m + 4 ≤ ps.length + 2 * n0
 left : m ≤ n0
 keys : obj = true → ∀ x (h : x < ps.length), ∃ s, (ps[x]).k = s ++ [UInt8.ofNat (48 + x)]
 valid : obj = true → ∀ p ∈ ps, vU p.key = true ∧ p.key.size ≤ 5
 tlen : T.length ≤ 3 + 64 * (J.flats (jsM ps)).length
theorem KidsJ.start {obj : Bool} {deep n0 i m : Nat} {T : List UInt8} (hT : Blanks T) (hl : T.length ≤ 3) (hd : deep ≤ 7) (hi : i ≤ 4) (hm : m + 2 ≤ n0) : KidsJ obj deep n0 i m [] T where
 mem := by simp
 zero _ := ⟨hT, hl⟩
 more h := absurd rfl h
 deeps := by simp only [jsM, List.map_nil, J.deeps]; omega
 len := by simpa using hi
 size := by simp only [jsM, List.map_nil, J.flats, List.length_nil]; omega
 left := by omega
 keys _ x h := by simp at h
 valid _ p h := by simp at h
 tlen := by omega
structure HeadJ (obj : Bool) (x : Nat) (kt k : List UInt8) : Prop where
 key : obj = true → KeyTxt kt k ∧ vU (bT k) = true ∧ ∃ s, k = s ++ [UInt8.ofNat (48 + x)] ∧ s.length ≤ 4
 nokey : obj = false → kt = []
 len : kt.length ≤ 22
theorem KidsJ.next {obj : Bool} {deep n0 i m m1 m2 m' : Nat} {ps : List Mem} {T kt k lead v b3 : List UInt8} {j : J} (h : KidsJ obj deep n0 (i + 1) m ps T) (hh : HeadJ obj ps.length kt k) (hl : Blanks lead) (hl3 : lead.length ≤ 3) (hb : Blanks b3) (hb3 : b3.length ≤ 3) (hv : Txt v j) (hv64 : v.length + 40 ≤ 64 * j.flat.length)
 (hd : j.deep + (deep + 1) ≤ 8) (h1 : m1 ≤ m) (h2 : j.flat.length + 2 * m2 ≤ 1 + 2 * m1) (h3 : m' ≤ m2) : KidsJ obj deep n0 i m' (ps ++ [⟨kt, k, lead ++ (v ++ b3), j⟩]) (preT ps T ++ (kt ++ (lead ++ (v ++ b3)))) where
 mem := by
  intro p hp
  rcases List.mem_append.1 hp with hp | hp
  · exact h.mem p hp
  · rw [List.mem_singleton.1 hp]
    have hm := (txt_may hv.val).1
    refine ⟨⟨lead, v, b3, rfl, hl, hb, hv⟩, ?_, fun ho => (hh.key ho).1, hh.nokey⟩
    simp only [List.length_append]
    omega
 zero h := by simp at h
 more _ c := by
  rw [List.map_append, List.map_cons, List.map_nil, accL_snoc]
  by_cases hp : ps = []
  · subst hp
    rfl
  · rw [if_neg (by simpa using hp), ← h.more hp c]
    unfold preT
    rw [if_neg hp]
    simp [Mem.piece]
 deeps := by
  have := h.deeps
  simp only [jsM, List.map_append, List.map_cons, List.map_nil] at this ⊢
  rw [deeps_append]
  simp only [J.deeps]
  omega
 len := by have := h.len; simp; omega
 size := by
  have := h.size
  simp only [jsM, List.map_append, List.map_cons, List.map_nil] at this ⊢
  rw [flats_append, flats_one, List.length_append]
  simp only [List.length_append, List.length_cons, List.length_nil]
  omega
 left := by have := h.left; have := flat_pos j; omega
 keys ho x hx := by
  rcases Nat.lt_or_ge x ps.length with hlt | hge
  · obtain ⟨s, hs⟩ := h.keys ho x hlt
    exact ⟨s, by rw [List.getElem_append_left hlt]; exact hs⟩
  · have e : x = ps.length := by simp at hx; omega
    subst e
    obtain ⟨s, hs, _⟩ := (hh.key ho).2.2
    exact ⟨s, by simpa using hs⟩
 valid ho p hp := by
  rcases List.mem_append.1 hp with hp | hp
  · exact h.valid ho p hp
  · rw [List.mem_singleton.1 hp]
    obtain ⟨a1, a2, s, hs, hl⟩ := hh.key ho
    refine ⟨a2, ?_⟩
    show (bT k).size ≤ 5
    rw [hs, bT_len, List.length_append, List.length_cons, List.length_nil]
    omega
 tlen := by
  have := h.tlen
  have := hh.len
  have hp : (preT ps T).length ≤ T.length + 1 := by
   unfold preT
   split <;> simp
  simp only [jsM, List.map_append, List.map_cons, List.map_nil] at this ⊢
  rw [flats_append, flats_one]
  simp only [List.length_append]
  simp only [jsM] at *
  omega
end Go.Proofs.YthlfljmfggmfdaaGreatDoor

/-! ###  -/
namespace Go.Proofs.YthlfljmfggmfdaaGreatDoor
open Go.Lib (decodeL validD decDigits itoa)
structure Back (j : J) : Prop where
 ok : J.Ok vU j
 nums : NumsOk j.flat
 len : j.flat.length ≤ 4000
 deep : j.deep ≤ 64
 text : j.show.length ≤ 1048576
end Go.Proofs.YthlfljmfggmfdaaGreatDoor

/-! ###  -/
namespace Go.Proofs.YthlfljmfggmfdaaGreatDoor
open Go.Lib (decodeL validD decDigits itoa)
end Go.Proofs.YthlfljmfggmfdaaGreatDoor

/-! ###  -/
namespace Go.Proofs.YthlfljmfggmfdaaGreatDoor
open Go.RowKit
end Go.Proofs.YthlfljmfggmfdaaGreatDoor

/-! ###  -/
namespace Go.Proofs.YthlfljmfggmfdaaGreatDoor
open Go.RowKit
def Col.named (c : Col) (s : ByteArray) : Col := ⟨c.id, s, c.kind, c.null, c.dflt⟩
def z9 : ByteArray := ⟨#[122, 57]⟩
structure ObjR (cols : List Col) (ks : List ByteArray) (pl : List (List Nd)) (t : List Nd) (out : List Cell) (e : Int) : Prop where
 keys : ∀ s ∈ ks, s.size ≤ maxLen
 texts : ∀ p ∈ pl, TextsOk p
 obj : ObjT ks pl t 0
 ok : TextsOk t
 fit : NdFit t
 row : RowOf cols t out e
structure MadeR (cols : List Col) (r : List Cell) : Prop where
 named : namedB cols = true
 row : rowErr vU cols r = 0
 few : cols.length ≤ 20
 size : ∀ c ∈ cols, c.name.size = 3
section
variable {cols : List Col} {r : List Cell}
theorem MadeR.names (h : MadeR cols r) : ∀ c ∈ cols, c.name.size ≤ maxLen := fun c hc => by
 have := h.size c hc
 unfold maxLen
 omega
end
end Go.Proofs.YthlfljmfggmfdaaGreatDoor
