/- Values and parts at a place of nodes: the plain laws of the document's value and parts. -/
import Derived.Test.YtmolmphbhdbcaaaDoorRefV
import Derived.Test.YtmolmphbhdbcaaaDoorRdeep
namespace Go.Proofs.YtmolmphbhdbcaaaDoor
open Go.RowKit

/-- a value stands at a place, and ends at an end at most -/
def ValAt (t : List Nd) (a E : Nat) (j : J) (r : List Nd) : Prop := J.Ok vU j ∧ t.drop a = j.flat ++ r ∧ a + j.flat.length ≤ E
def IsVal (t : List Nd) (a E : Nat) : Prop := ∃ j r, ValAt t a E j r
def keyOk (obj : Bool) (had : List ByteArray) (k : ByteArray) : Prop := if obj then vU k = true ∧ k ∉ had else k = none_
def keysAll (obj : Bool) (had ks : List ByteArray) : Prop := if obj then keysOk vU had ks else ∀ k ∈ ks, k = none_
/-- parts stand from a place to an end, with keys that may stand behind some -/
def IsParts (t : List Nd) (p E : Nat) (obj : Bool) (had : List ByteArray) : Prop := ∃ l r, J.Oks vU l ∧ t.drop p = J.flats l ++ r ∧ p + (J.flats l).length = E ∧ keysAll obj had (l.map J.key)

theorem keysAll_cons {obj : Bool} {had ks : List ByteArray} {k : ByteArray} : keysAll obj had (k :: ks) ↔ keyOk obj had k ∧ keysAll obj (had ++ [k]) ks := by
  unfold keysAll keyOk
  cases obj <;> simp [keysOk, and_assoc]
theorem parts_end {t : List Nd} {E : Nat} {obj : Bool} {had : List ByteArray} : IsParts t E E obj had :=
  ⟨[], t.drop E, by simp [J.Oks], by simp [J.flats], by simp [J.flats], by unfold keysAll; cases obj <;> simp [keysOk]⟩
theorem val_unique {t : List Nd} {a E : Nat} {j j' : J} {r r' : List Nd} (h : ValAt t a E j r) (h' : t.drop a = j'.flat ++ r') : j = j' ∧ r = r' :=
  flat_unique (h.2.1.symm.trans h')
theorem drop_next {t : List Nd} {a : Nat} {j : J} {r : List Nd} (h : t.drop a = j.flat ++ r) : t.drop (a + j.flat.length) = r := by
  rw [← List.drop_drop, h, List.drop_left' rfl]
theorem parts_step {t : List Nd} {p E : Nat} {obj : Bool} {had : List ByteArray} {j : J} {r : List Nd} (hp : p < E) (hv : ValAt t p E j r) :
    IsParts t p E obj had ↔ keyOk obj had j.key ∧ IsParts t (p + j.flat.length) E obj (had ++ [j.key]) := by
  constructor
  · rintro ⟨l, r', h1, h2, h3, h4⟩
    cases l with
    | nil => simp [J.flats] at h3; omega
    | cons j' l =>
      rw [flats_cons, List.append_assoc] at h2
      obtain ⟨rfl, h5⟩ := val_unique hv h2
      rw [flats_cons, List.length_append] at h3
      rw [List.map_cons, keysAll_cons] at h4
      simp only [J.Oks] at h1
      exact ⟨h4.1, l, r', h1.2, by rw [drop_next hv.2.1, h5], by omega, h4.2⟩
  · rintro ⟨h0, l, r', h1, h2, h3, h4⟩
    refine ⟨j :: l, r', ?_, ?_, ?_, ?_⟩
    · simp only [J.Oks]; exact ⟨hv.1, h1⟩
    · rw [hv.2.1, flats_cons, List.append_assoc, ← h2, drop_next hv.2.1]
    · rw [flats_cons, List.length_append]; omega
    · rw [List.map_cons, keysAll_cons]; exact ⟨h0, h4⟩
theorem parts_none {t : List Nd} {p E : Nat} {obj : Bool} {had : List ByteArray} (hp : p < E) (h : ¬ IsVal t p E) : ¬ IsParts t p E obj had := by
  rintro ⟨l, r', h1, h2, h3, _⟩
  cases l with
  | nil => simp [J.flats] at h3; omega
  | cons j l =>
    rw [flats_cons, List.append_assoc] at h2
    rw [flats_cons, List.length_append] at h3
    simp only [J.Oks] at h1
    exact h ⟨j, J.flats l ++ r', h1.1, h2, by omega⟩
theorem val_size {t : List Nd} {a E : Nat} (ha : a < t.length) (h : IsVal t a E) : 1 ≤ t[a].size ∧ t[a].size ≤ (E : Int) - a := by
  obtain ⟨j, r, _, h2, h3⟩ := h
  obtain ⟨_, hx⟩ := head_flat h2
  have := flat_pos j
  rw [hx]
  simp only
  omega
theorem drop_split {t : List Nd} {a : Nat} (ha : a < t.length) : t.drop a = t[a] :: t.drop (a + 1) := List.drop_eq_getElem_cons ha
/-- a value of one node -/
theorem val_leaf {t : List Nd} {a E : Nat} (ha : a < t.length) (h2 : t[a].size ≤ (E : Int) - a) (hk : t[a].kind ≠ 6) (hk' : t[a].kind ≠ 7) : IsVal t a E ↔ fitsB vU t[a] = true := by
  constructor
  · rintro ⟨⟨h, l⟩, r, g1, g2, g3⟩
    obtain ⟨_, hx⟩ := head_flat g2
    rw [hx] at hk hk' ⊢
    simp only [J.hd] at hk hk' ⊢
    simp only [J.Ok] at g1
    rcases g1 with ⟨g, rfl⟩ | ⟨g, _⟩ | ⟨g, _⟩
    · have := (fits_leaf.1 g).1
      simpa [flat_mk, J.flats] using this
    · exact absurd g hk
    · exact absurd g hk'
  · intro h
    have hlt : t[a].kind < 6 := by
      rcases Int.lt_or_le t[a].kind 6 with h' | h'
      · exact h'
      · have := (fits_kind h h').1
        omega
    have hs := fits_size h hlt
    refine ⟨.mk ⟨t[a].kind, t[a].key, t[a].n, t[a].s⟩ [], t.drop (a + 1), ?_, ?_, ?_⟩
    · simp only [J.Ok]
      refine .inl ⟨fits_leaf.2 ⟨?_, hlt⟩, by trivial⟩
      have : t[a] = ⟨t[a].kind, t[a].key, t[a].n, t[a].s, 1⟩ := by rw [← hs]
      rw [this] at h
      exact h
    · rw [drop_split ha, flat_mk]
      have : t[a] = ⟨t[a].kind, t[a].key, t[a].n, t[a].s, 1⟩ := by rw [← hs]
      simp only [J.flats, List.length_nil, List.singleton_append]
      congr 1
    · simp [flat_mk, J.flats]; omega
/-- a list, or an object -/
theorem val_hold {t : List Nd} {a E n : Nat} (ha : a < t.length) (h1 : t[a].size = (n : Int) + 1) (h2 : a + 1 + n ≤ E) (hk : t[a].kind = 6 ∨ t[a].kind = 7) :
    IsVal t a E ↔ (t[a].n = 0 ∧ t[a].s = none_) ∧ IsParts t (a + 1) (a + 1 + n) (decide (t[a].kind = 7)) [] := by
  constructor
  · rintro ⟨⟨h, l⟩, r, g1, g2, g3⟩
    obtain ⟨_, hx⟩ := head_flat g2
    rw [hx] at h1 hk ⊢
    simp only [J.hd] at h1 hk ⊢
    have hlen : (J.flats l).length = n := by rw [flat_mk, List.length_cons] at h1; omega
    simp only [J.Ok] at g1
    have hdk := drop_kids g2
    rcases g1 with ⟨g, rfl⟩ | ⟨g, gp, go, gk⟩ | ⟨g, gp, go, gk⟩
    · have := (fits_leaf.1 g).2
      omega
    · exact ⟨gp, l, r, go, hdk, by omega, by unfold keysAll; simp [g]; exact gk⟩
    · exact ⟨gp, l, r, go, hdk, by omega, by unfold keysAll; simp [g]; exact gk⟩
  · rintro ⟨gp, l, r, go, g2, g3, gk⟩
    have hlen : (J.flats l).length = n := by omega
    refine ⟨.mk ⟨t[a].kind, t[a].key, t[a].n, t[a].s⟩ l, r, ?_, ?_, ?_⟩
    · simp only [J.Ok]
      rcases hk with hk | hk
      · refine .inr (.inl ⟨hk, gp, go, fun j hj => ?_⟩)
        unfold keysAll at gk
        simp [hk] at gk
        exact gk j hj
      · refine .inr (.inr ⟨hk, gp, go, ?_⟩)
        unfold keysAll at gk
        simpa [hk] using gk
    · rw [drop_split ha, g2, flat_mk, hlen, ← h1]; rfl
    · rw [flat_mk, List.length_cons]; omega
/-- which nodes are a tape -/
theorem tape_iff {t : List Nd} (ht : 0 < t.length) : (∃ j, Tape vU j t) ↔ t[0].key = none_ ∧ t[0].size = t.length ∧ IsVal t 0 t.length := by
  constructor
  · rintro ⟨j, h1, h2, rfl⟩
    obtain ⟨_, hx⟩ := head_flat (t := j.flat) (a := 0) (j := j) (r := []) (by simp)
    rw [hx]
    exact ⟨h2, rfl, j, [], h1, by simp, by simp⟩
  · rintro ⟨h1, h2, j, r, g1, g2, g3⟩
    obtain ⟨_, hx⟩ := head_flat g2
    rw [hx] at h1 h2
    simp only at h2
    rw [List.drop_zero] at g2
    have : r = [] := by
      have e := congrArg List.length g2
      rw [List.length_append] at e
      exact List.eq_nil_of_length_eq_zero (by omega)
    subst this
    exact ⟨j, g1, h1, by simpa using g2⟩
end Go.Proofs.YtmolmphbhdbcaaaDoor

