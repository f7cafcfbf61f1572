/-  -/
import Derived.Test.YthlfljmfggmfdaaGreatDoorQk34
import Derived.Test.YthlfljmfggmfdaaGreatDoorQk32
import Derived.Lib.TrimUEq
import Derived.Lib.MapLaws
import Derived.Lib.ValidLaws
import Derived.Test.YthlfljmfggmfdaaGreatDoorQk35
import Derived.Test.YthlfljmfggmfdaaGreatDoorQk06
/-! ###  -/
namespace Go.Proofs.YthlfljmfggmfdaaGreatDoor
open Go.Lib (decodeN decodeL validD)
def Uok (p : List UInt8) : Prop := ∀ rest, validD (p ++ rest) = validD rest
theorem uok_nil : Uok [] := fun _ => rfl
theorem uok_append {a b : List UInt8} (ha : Uok a) (hb : Uok b) : Uok (a ++ b) := fun rest => by rw [List.append_assoc, ha, hb]
theorem uok_valid {p : List UInt8} (h : Uok p) : validD p = true := by
 have := h []
 rw [List.append_nil] at this
 rw [this]
 rfl
theorem uok_1 {a : UInt8} (h : a.toNat < 128) : Uok [a] := fun rest => Lib.validD_cons a rest h
theorem uok_2 {a b : UInt8} (h0 : a.toNat / 32 = 6) (h1 : b.toNat / 64 = 2) (h2 : 128 ≤ a.toNat % 32 * 64 + b.toNat % 64) : Uok [a, b] := fun rest => by
 have hd : decodeL (a :: b :: rest) = (a.toNat % 32 * 64 + b.toNat % 64, 2) := by
  rw [Lib.decodeL_N]
  simp only [List.getD_cons_zero, List.getD_cons_succ, List.length_cons]
  unfold decodeN
  rw [if_neg (by omega), if_pos ⟨h0, by omega, h1⟩, if_pos h2]
 rw [show [a, b] ++ rest = a :: b :: rest from rfl, Lib.validD_step _ (by simp), hd, if_neg (by simp)]
 rfl
theorem uok_3 {a b c : UInt8} (h0 : a.toNat / 16 = 14) (h1 : b.toNat / 64 = 2) (h2 : c.toNat / 64 = 2) (h3 : 2048 ≤ a.toNat % 16 * 4096 + b.toNat % 64 * 64 + c.toNat % 64)
 (h4 : a.toNat % 16 * 4096 + b.toNat % 64 * 64 + c.toNat % 64 < 55296 ∨ 57344 ≤ a.toNat % 16 * 4096 + b.toNat % 64 * 64 + c.toNat % 64) : Uok [a, b, c] := fun rest => by
 have hd : decodeL (a :: b :: c :: rest) = (a.toNat % 16 * 4096 + b.toNat % 64 * 64 + c.toNat % 64, 3) := by
  rw [Lib.decodeL_N]
  simp only [List.getD_cons_zero, List.getD_cons_succ, List.length_cons]
  unfold decodeN
  rw [if_neg (by omega), if_neg (by omega), if_pos ⟨h0, ⟨by omega, h1⟩, by omega, h2⟩, if_pos ⟨h3, by omega⟩]
 rw [show [a, b, c] ++ rest = a :: b :: c :: rest from rfl, Lib.validD_step _ (by simp), hd, if_neg (by simp)]
 rfl
theorem uok_4 {a b c d : UInt8} (h0 : a.toNat / 8 = 30) (h1 : b.toNat / 64 = 2) (h2 : c.toNat / 64 = 2) (h5 : d.toNat / 64 = 2) (h3 : 65536 ≤ a.toNat % 8 * 262144 + b.toNat % 64 * 4096 + c.toNat % 64 * 64 + d.toNat % 64)
 (h4 : a.toNat % 8 * 262144 + b.toNat % 64 * 4096 + c.toNat % 64 * 64 + d.toNat % 64 ≤ 1114111) : Uok [a, b, c, d] := fun rest => by
 have hd : decodeL (a :: b :: c :: d :: rest) = (a.toNat % 8 * 262144 + b.toNat % 64 * 4096 + c.toNat % 64 * 64 + d.toNat % 64, 4) := by
  rw [Lib.decodeL_N]
  simp only [List.getD_cons_zero, List.getD_cons_succ, List.length_cons]
  unfold decodeN
  rw [if_neg (by omega), if_neg (by omega), if_neg (by omega), if_pos ⟨h0, ⟨by omega, h1⟩, ⟨by omega, h2⟩, by omega, h5⟩, if_pos ⟨h3, by omega⟩]
 rw [show [a, b, c, d] ++ rest = a :: b :: c :: d :: rest from rfl, Lib.validD_step _ (by simp), hd, if_neg (by simp)]
 rfl
theorem of_nat {n : Nat} (h : n < 256) : (UInt8.ofNat n).toNat = n := by simp; omega
theorem uok_enc (n : Nat) : Uok (encL n) := by
 rw [encL_def]
 unfold Utf8.encode
 simp only
 obtain ⟨c, hc⟩ : ∃ c, (if Utf8.valid (n : Int) = true then (n : Int).toNat else Utf8.runeError) = c := ⟨_, rfl⟩
 have hv : c < 55296 ∨ (57344 ≤ c ∧ c ≤ 1114111) := by
  rw [← hc]
  split
  · rename_i h
    unfold Utf8.valid at h
    simp at h
    omega
  · unfold Utf8.runeError
    omega
 rw [hc]
 split
 · rename_i h
   exact uok_1 (by rw [of_nat (by omega)]; exact h)
 split
 · exact uok_2 (by rw [of_nat (by omega)]; omega) (by rw [of_nat (by omega)]; omega) (by rw [of_nat (by omega), of_nat (by omega)]; omega)
 split
 · exact uok_3 (by rw [of_nat (by omega)]; omega) (by rw [of_nat (by omega)]; omega) (by rw [of_nat (by omega)]; omega) (by rw [of_nat (by omega), of_nat (by omega), of_nat (by omega)]; omega) (by rw [of_nat (by omega), of_nat (by omega), of_nat (by omega)]; omega)
 · exact uok_4 (by rw [of_nat (by omega)]; omega) (by rw [of_nat (by omega)]; omega) (by rw [of_nat (by omega)]; omega) (by rw [of_nat (by omega)]; omega) (by rw [of_nat (by omega), of_nat (by omega), of_nat (by omega), of_nat (by omega)]; omega) (by rw [of_nat (by omega), of_nat (by omega), of_nat (by omega), of_nat (by omega)]; omega)
theorem three_of {l : List UInt8} (h : 2 < l.length) : ∃ a b c r, l = a :: b :: c :: r := by
 cases l with
 | nil => simp at h
 | cons a l =>
   cases l with
   | nil => simp at h
   | cons b l =>
     cases l with
     | nil => simp at h
     | cons c l => exact ⟨a, b, c, l, rfl⟩
theorem four_of {l : List UInt8} (h : 3 < l.length) : ∃ a b c d r, l = a :: b :: c :: d :: r := by
 obtain ⟨a, b, c, l, rfl⟩ := three_of (l := l) (by omega)
 cases l with
 | nil => simp at h
 | cons d l => exact ⟨a, b, c, d, l, rfl⟩
theorem uok_rune (l : List UInt8) (h : ¬ ((decodeL l).1 = 65533 ∧ (decodeL l).2 = 1)) (hne : l ≠ []) : Uok (l.take (decodeL l).2) := by
 rw [Lib.decodeL_N] at h ⊢
 rcases Lib.decodeN_shape l.length (l.getD 0 0).toNat (l.getD 1 0).toNat (l.getD 2 0).toNat (l.getD 3 0).toNat with ⟨c, e⟩ | ⟨c1, c2, c3, cv, e⟩ | ⟨c1, c2, c3, c4, cv, cs, e⟩ | ⟨c1, c2, c3, c4, c5, cv, cw, e⟩ | e
 · rw [e]
   match l, hne with
   | a :: l, _ => exact uok_1 c
 · rw [e]
   match l, c2 with
   | a :: b :: l, _ => exact uok_2 c1 c3 cv
 · rw [e]
   obtain ⟨a, b, d, l, rfl⟩ := three_of c2
   simp only [List.getD_cons_zero, List.getD_cons_succ] at c1 c3 c4 cv cs
   exact uok_3 c1 c3 c4 cv cs
 · rw [e]
   obtain ⟨a, b, d, f, l, rfl⟩ := four_of c2
   simp only [List.getD_cons_zero, List.getD_cons_succ] at c1 c3 c4 c5 cv cw
   exact uok_4 c1 c3 c4 c5 cv cw
 · rw [e] at h
   exact absurd ⟨rfl, rfl⟩ h
theorem escV_uok {l r t : List UInt8} (h : escV l = .ok (t, r)) : Uok t := by
 cases l with
 | nil => cases h
 | cons c l =>
   simp only [escV] at h
   split at h
   · injection h with h; injection h with h _; subst h; exact uok_1 (by decide)
   split at h
   · injection h with h; injection h with h _; subst h; exact uok_enc _
   split at h
   · cases h
   split at h
   · cases h
   split at h
   · split at h
     · cases h
     split at h
     · cases h
     split at h
     · cases h
     injection h with h; injection h with h _; subst h
     exact uok_enc _
   · injection h with h; injection h with h _; subst h
     exact uok_enc _
theorem pieceV_uok {l r t : List UInt8} (h : pieceV l = .ok (t, r)) : Uok t := by
 cases l with
 | nil => cases h
 | cons c l =>
   simp only [pieceV] at h
   split at h
   · exact escV_uok h
   · simp only [plainV] at h
     split at h
     · cases h
     split at h
     · rename_i hn
       injection h with h; injection h with h _; subst h
       have hr : ¬ Utf8.decode (bT (c :: l)) 0 = (65533, 1) := by
        intro e
        apply hn
        unfold runeN
        rw [if_pos e]
       have e : runeN (c :: l) = (decodeL (c :: l)).2 := by
        unfold runeN
        rw [if_neg hr]
        rfl
       rw [e]
       refine uok_rune _ (fun k => hr ?_) (by simp)
       have e2 : Utf8.decode (bT (c :: l)) 0 = decodeL (c :: l) := rfl
       rw [e2]
       exact Prod.ext k.1 k.2
     · split at h <;> cases h
theorem unqB_uok : ∀ (f : Nat) (l r t : List UInt8), unqB f l = .ok (t, r) → Uok t
 | 0, _, _, _, h => by cases h
 | f + 1, [], _, _, h => by cases h
 | f + 1, c :: l, r, t, h => by
   simp only [unqB] at h
   split at h
   · injection h with h; injection h with h _; subst h; exact uok_nil
   split at h
   · cases h
   rename_i t1 r1 h1
   split at h
   · cases h
   rename_i u r2 h2
   injection h with h; injection h with h _; subst h
   exact uok_append (pieceV_uok h1) (unqB_uok f _ _ _ h2)
theorem litV_uok {l r t : List UInt8} (h : litV l = .ok (t, r)) : vU (bT t) = true := by
 have hg : Uok t := by
  cases l with
  | nil => cases h
  | cons c l =>
    simp only [litV] at h
    split at h
    · cases h
    split at h
    · cases h
    · rename_i x hx
      injection h with h
      subst h
      simp only [unqV] at hx
      split at hx
      · cases hx
      · exact unqB_uok _ _ _ _ hx
 unfold vU
 have e : (bT t).data.toList = t := by simp [bT]
 rw [e]
 exact uok_valid hg
end Go.Proofs.YthlfljmfggmfdaaGreatDoor

/-! ###  -/
namespace Go.Proofs.YthlfljmfggmfdaaGreatDoor
theorem rk_ok {k : ByteArray} {j : J} (h : J.Ok vU j) : J.Ok vU (j.rekey k) := by
 cases j with
 | mk hd l =>
   simp only [J.rekey, J.Ok] at h ⊢
   exact h
theorem rk_key (k : ByteArray) (j : J) : (j.rekey k).key = k := by cases j; rfl
theorem rk_deep (k : ByteArray) (j : J) : (j.rekey k).deep = j.deep := by cases j; simp [J.rekey, J.deep]
theorem leafV_ok {c : UInt8} {l r : List UInt8} {j : J} (h : leafV c l = .ok (j, r)) : J.Ok vU j := by
 have one : ∀ (k n : Int) (s : ByteArray), leafOk vU ⟨k, none_, n, s⟩ → J.Ok vU (oneJ k n s) := fun k n s h => by
  unfold oneJ
  simp only [J.Ok]
  exact .inl ⟨h, trivial⟩
 unfold leafV at h
 repeat' split at h
 all_goals first | (cases h; done) | skip
 all_goals (injection h with h; injection h with h1 h2; subst h1 h2; rename_i hw)
 all_goals apply one
 · exact .inl ⟨.inl rfl, rfl, rfl⟩
 · exact .inl ⟨.inr (.inl rfl), rfl, rfl⟩
 · exact .inl ⟨.inr (.inr rfl), rfl, rfl⟩
 · exact .inr (.inr ⟨rfl, rfl, litV_uok hw⟩)
 · exact .inr (.inl ⟨rfl, rfl⟩)
def PartsOk (obj : Bool) (n d : Nat) (had : List ByteArray) (js : List J) : Prop := J.Oks vU js ∧ n + (J.flats js).length ≤ 4000 ∧ d + J.deeps js ≤ 64 ∧ (obj = false → ∀ j ∈ js, j.key = none_) ∧ (obj = true → keysOk vU had (js.map J.key))
theorem keyV_ok {obj : Bool} {had : List ByteArray} {l r : List UInt8} {k : ByteArray} (h : keyV obj had l = .ok (k, r)) : (obj = false → k = none_) ∧ (obj = true → vU k = true ∧ k ∉ had) := by
 cases obj with
 | false =>
   simp only [keyV, if_true] at h
   injection h with h; injection h with h _; subst h
   exact ⟨fun _ => rfl, fun h => by cases h⟩
 | true =>
   rw [keyM_eq] at h
   unfold keyM at h
   split at h
   · cases h
   rename_i t r1 h1
   split at h
   · cases h
   rename_i hk
   split at h
   · cases h
   injection h with h; injection h with h _; subst h
   exact ⟨fun h => (by cases h), fun _ => ⟨litV_uok h1, fun hm => hk (hasKey_iff.2 hm)⟩⟩
theorem may_both : ∀ f : Nat, (∀ (n d : Nat) (l r : List UInt8) (j : J), pv f n d l = .ok (j, r) → J.Ok vU j ∧ n + j.flat.length ≤ 4000 ∧ d + j.deep ≤ 64) ∧
 ∀ (obj : Bool) (n d : Nat) (had : List ByteArray) (l r : List UInt8) (js : List J), pp f obj n d had l = .ok (js, r) → PartsOk obj n d had js
 | 0 => by
   refine ⟨fun _ _ _ _ _ h => ?_, fun _ _ _ _ _ _ _ h => ?_⟩
   · simp only [pv] at h
     cases h
   · simp only [pp] at h
     cases h
 | f + 1 => by
   obtain ⟨ihv, ihp⟩ := may_both f
   refine ⟨fun n d l r j h => ?_, fun obj n d had l r js h => ?_⟩
   · cases l with
     | nil => simp only [pv] at h; cases h
     | cons c l =>
       simp only [pv] at h
       split at h
       · cases h
       split at h
       · cases h
       rename_i hn
       split at h
       · cases h
       rename_i hd
       split at h
       · split at h
         · injection h with h; injection h with h _; subst h
           refine ⟨?_, by simp [J.flat, J.flats]; omega, by simp [J.deep, J.deeps]; omega⟩
           simp only [J.Ok]
           cases (c == 123)
           · exact .inr (.inl ⟨rfl, ⟨rfl, rfl⟩, trivial, by simp⟩)
           · exact .inr (.inr ⟨rfl, ⟨rfl, rfl⟩, trivial, trivial⟩)
         · split at h
           · cases h
           rename_i js r2 hp
           injection h with h; injection h with h _; subst h
           obtain ⟨p1, p2, p3, p4, p5⟩ := ihp _ _ _ _ _ _ _ hp
           refine ⟨?_, by rw [flat_mk]; simp only [List.length_cons]; omega, by simp only [J.deep]; omega⟩
           simp only [J.Ok]
           cases hc : (c == 123)
           · exact .inr (.inl ⟨rfl, ⟨rfl, rfl⟩, p1, p4 hc⟩)
           · exact .inr (.inr ⟨rfl, ⟨rfl, rfl⟩, p1, p5 hc⟩)
       · have a := leafV_less h
         exact ⟨leafV_ok h, by omega, by omega⟩
   · simp only [pp] at h
     split at h
     · cases h
     rename_i k l1 hk
     split at h
     · cases h
     rename_i j l2 hv
     obtain ⟨v1, v2, v3⟩ := ihv _ _ _ _ _ hv
     obtain ⟨k1, k2⟩ := keyV_ok hk
     split at h
     · cases h
     · injection h with h; injection h with h _; subst h
       refine ⟨⟨rk_ok v1, trivial⟩, by rw [flats_one, rekey_len]; exact v2, by simp only [J.deeps, rk_deep]; omega, fun ho x hx => ?_, fun ho => ?_⟩
       · simp only [List.mem_singleton] at hx
         subst hx
         rw [rk_key]
         exact k1 ho
       · simp only [List.map_cons, List.map_nil, rk_key, keysOk]
         exact ⟨(k2 ho).1, (k2 ho).2, trivial⟩
     · split at h
       · cases h
       rename_i js2 l4 hp
       injection h with h; injection h with h _; subst h
       obtain ⟨p1, p2, p3, p4, p5⟩ := ihp _ _ _ _ _ _ _ hp
       refine ⟨⟨rk_ok v1, p1⟩, by rw [flats_cons, List.length_append, rekey_len]; omega, by simp only [J.deeps, rk_deep]; omega, fun ho x hx => ?_, fun ho => ?_⟩
       · rcases List.mem_cons.1 hx with rfl | hx
         · rw [rk_key]; exact k1 ho
         · exact p4 ho x hx
       · have p6 := p5 ho
         rw [ho] at p6
         simp only [List.map_cons, rk_key, keysOk]
         refine ⟨(k2 ho).1, (k2 ho).2, ?_⟩
         simpa [hadOf] using p6
theorem parseV_may {l : List UInt8} {j : J} (h : parseV l = .ok j) : May j.flat j := by
 unfold parseV at h
 split at h
 · cases h
 split at h
 · cases h
 rename_i j' r hp
 have e : j' = j := by
  split at h
  · injection h
  · cases h
 subst e
 obtain ⟨a, b, c⟩ := (may_both _).1 _ _ _ _ _ hp
 exact ⟨⟨a, pv_key hp, rfl⟩, by omega, by omega⟩
end Go.Proofs.YthlfljmfggmfdaaGreatDoor
namespace Go.Proofs.YthlfljmfggmfdaaGreatDoor
end Go.Proofs.YthlfljmfggmfdaaGreatDoor
namespace Go.Proofs.YthlfljmfggmfdaaGreatDoor
end Go.Proofs.YthlfljmfggmfdaaGreatDoor
