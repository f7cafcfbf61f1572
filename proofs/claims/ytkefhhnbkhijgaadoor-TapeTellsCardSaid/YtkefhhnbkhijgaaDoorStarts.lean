/- Where the parts of a value stand: a choice of the part by its place. -/
import Derived.Test.YtkefhhnbkhijgaaDoorRoom
namespace Go.Proofs.YtkefhhnbkhijgaaDoor
open Go.RowKit

theorem starts_ge : ∀ (l : List J) (a : Nat), ∀ p ∈ starts a l, a ≤ p
  | [], _, _, h => absurd h (by simp [starts])
  | j :: l, a, p, h => by
    rw [starts] at h
    rcases List.mem_cons.1 h with e | h
    · omega
    · have := starts_ge l _ p h; omega
/-- each place has its part -/
theorem starts_pick (t : List Nd) : ∀ (l : List J) (a : Nat) (r : List Nd), t.drop a = J.flats l ++ r →
    ∃ f : Nat → J, (starts a l).map f = l ∧ ∀ p ∈ starts a l, p < t.length ∧ f p ∈ l ∧ keyAt t p = (f p).key ∧ ∃ r', t.drop p = (f p).flat ++ r'
  | [], _, _, _ => ⟨fun _ => .mk ⟨0, none_, 0, none_⟩ [], by simp [starts], fun _ h => absurd h (by simp [starts])⟩
  | j :: l, a, r, hd => by
    rw [flats_cons, List.append_assoc] at hd
    have hd2 : t.drop (a + j.flat.length) = J.flats l ++ r := by
      rw [← List.drop_drop, hd, List.drop_left' rfl]
    obtain ⟨f, hf, hm⟩ := starts_pick t l _ r hd2
    have hpos := flat_pos j
    have hne : ∀ p ∈ starts (a + j.flat.length) l, p ≠ a := fun p hp => by have := starts_ge l _ p hp; omega
    refine ⟨fun p => if p = a then j else f p, ?_, ?_⟩
    · rw [starts, List.map_cons, if_pos rfl]
      congr 1
      refine Eq.trans (List.map_congr_left fun p hp => ?_) hf
      rw [if_neg (hne p hp)]
    · intro p hp
      rw [starts] at hp
      by_cases e : p = a
      · subst e
        obtain ⟨h1, h2⟩ := head_flat hd
        simp only [if_true]
        exact ⟨h1, by simp, by rw [keyAt_get h1, h2]; rfl, _, hd⟩
      · have hp' := (List.mem_cons.1 hp).resolve_left e
        obtain ⟨h1, h2, h3, h4⟩ := hm p hp'
        simp only [if_neg e]
        exact ⟨h1, by simp [h2], h3, h4⟩
/-- whatever order of the places the sort found, the parts there, put in order, are those of the ordered value -/
theorem found_sorted (V : ByteArray → Bool) {t : List Nd} {l : List J} {a : Nat} {f : Nat → J} {ks : List Nat} (hf : (starts a l).map f = l) (hm : ∀ p ∈ starts a l, keyAt t p = (f p).key) (hk : keysOk V [] (l.map J.key))
    (hp : ks.Perm (starts a l)) (hs : ks.Pairwise fun a b => ¬ keyLt (keyAt t b) (keyAt t a)) : (ks.map f).map J.sort = ordJ (J.sorts l) := by
  have hA := (apt_of_keys V l [] hk).1
  have hpl : (ks.map f).Perm l := by
    have := hp.map f
    rwa [hf] at this
  refine ord_found hpl hA ?_
  have hA2 : AptJ (ks.map f) := (hpl.symm.pairwise_iff (fun {a b} h => h.symm)).1 hA
  unfold UpJ AptJ at *
  rw [List.pairwise_map] at hA2 ⊢
  refine (hs.and hA2).imp_of_mem fun {x y} hx hy h => ?_
  have e1 := hm x (hp.mem_iff.1 hx)
  have e2 := hm y (hp.mem_iff.1 hy)
  rw [← e1, ← e2]
  refine keyLt_total h.1 fun e => h.2 ?_
  rw [← e1, ← e2, e]
end Go.Proofs.YtkefhhnbkhijgaaDoor
