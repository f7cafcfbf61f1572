/- A value that may be is put together of its parts: the plain law. -/
import Derived.Test.YtmolmphbhdbcaaaGreatDoorSameT
import Derived.Test.YtmolmphbhdbcaaaGreatDoorExam
import Derived.Test.YtmolmphbhdbcaaaGreatDoorObj
/-! ### A value that may be is put together of its parts: the plain law. -/
namespace Go.Proofs.YtmolmphbhdbcaaaGreatDoor
open Go.RowKit

theorem ListT_some (pl : List (List Nd)) : ∃ out e, ListT pl out e := by
  by_cases h : ∀ i : Nat, (h : i < pl.length) → chkT pl[i] = 0
  · obtain ⟨js, hj⟩ := allMay_of h
    by_cases h1 : 4000 < 1 + (J.flats js).length
    · exact ⟨[], 5, .inr ⟨js, hj, .inl ⟨h1, rfl, rfl⟩⟩⟩
    · by_cases h2 : 64 ≤ J.deeps js
      · exact ⟨[], 72, .inr ⟨js, hj, .inr (.inl ⟨by omega, h2, rfl, rfl⟩)⟩⟩
      · exact ⟨_, 0, .inr ⟨js, hj, .inr (.inr ⟨by omega, by omega, rfl, rfl⟩)⟩⟩
  · have key : ∀ n : Nat, (∀ j : Nat, (hj : j < pl.length) → j < n → chkT pl[j] = 0) ∨ ∃ i : Nat, ∃ h : i < pl.length, (∀ j : Nat, (hj : j < pl.length) → j < i → chkT pl[j] = 0) ∧ chkT pl[i] ≠ 0 := by
      intro n
      induction n with
      | zero => exact .inl fun j _ h => by omega
      | succ n ih =>
        rcases ih with ih | ih
        · by_cases hn : n < pl.length
          · by_cases hc : chkT pl[n] = 0
            · refine .inl fun j hj hjn => ?_
              rcases Nat.lt_or_ge j n with h | h
              · exact ih j hj h
              · have : j = n := by omega
                subst this
                exact hc
            · exact .inr ⟨n, hn, ih, hc⟩
          · exact .inl fun j hj _ => ih j hj (by omega)
        · exact .inr ih
    rcases key pl.length with h' | ⟨i, hi, h1, h2⟩
    · exact absurd (fun i hi => h' i hi hi) h
    · exact ⟨[], _, .inl ⟨i, hi, h1, h2, rfl, rfl⟩⟩
theorem texts_at {t : List Nd} {a : Nat} {j : J} {r : List Nd} (h : TextsOk t) (e : t.drop a = j.flat ++ r) : TextsOk j.unkey.flat := by
  have hs : ∀ x ∈ j.flat, x ∈ t := fun x hx => List.mem_of_mem_drop (i := a) (by rw [e]; simp [hx])
  rw [← unkey_flat]
  intro x hx
  cases hj : j.flat with
  | nil => rw [hj] at hx; simp [unkeyL] at hx
  | cons y ys =>
    rw [hj] at hx hs
    simp only [unkeyL, List.mem_cons] at hx
    rcases hx with rfl | hx
    · have := h y (hs y (by simp))
      refine ⟨?_, this.2⟩
      show (0 : Nat) ≤ _
      omega
    · exact h x (hs x (by simp [hx]))
theorem kid_drop {t : List Nd} {h : Hd} {l1 l2 : List J} {j : J} (e : t = J.flat (.mk h (l1 ++ j :: l2))) : t.drop (0 + 1 + (J.flats l1).length) = j.flat ++ J.flats l2 := by
  have hd : t.drop 0 = J.flat (.mk h (l1 ++ j :: l2)) ++ [] := by rw [List.drop_zero, List.append_nil]; exact e
  have := drop_flat hd
  rw [flats_cons, List.append_assoc, List.append_nil] at this
  exact this
/-- what the parts of a value that may be are -/
def kidParts (l : List J) : List (List Nd) := l.map fun j => j.unkey.flat
theorem kid_may {t : List Nd} {h : Hd} {l : List J} (hm : May t (.mk h l)) : ∀ j ∈ l, May j.unkey.flat j.unkey := by
  intro j hj
  refine ⟨⟨unkey_ok (oks_mem (kids_ok hm.1.1) j hj), unkey_key j, rfl⟩, ?_, ?_⟩
  · rw [unkey_size]
    have h1 := flats_mem_le hj
    have h2 := hm.2.1
    rw [hm.1.2.2, flat_mk, List.length_cons] at h2
    omega
  · rw [unkey_deep]
    have h1 := deep_le_deeps hj
    have h2 := hm.2.2
    simp only [J.deep] at h2
    omega
theorem kids_all {t : List Nd} {h : Hd} {l : List J} (hm : May t (.mk h l)) : AllMay (kidParts l) (l.map J.unkey) := by
  refine ⟨by simp [kidParts], fun i hi hi' => ?_⟩
  have hil : i < l.length := by simpa [kidParts] using hi
  simp only [kidParts, List.getElem_map]
  exact kid_may hm _ (List.getElem_mem hil)
theorem whole_again {t : List Nd} {k : Int} {l : List J} (hm : May t (.mk ⟨k, none_, 0, none_⟩ l)) : WholeT k l t 0 := by
  have h1 := hm.2.1
  have h2 := hm.2.2
  rw [hm.1.2.2, flat_mk, List.length_cons] at h1
  simp only [J.deep] at h2
  exact .inr (.inr ⟨by omega, by omega, hm.1.2.2, rfl⟩)
theorem list_again {t : List Nd} {h : Hd} {l : List J} (hm : May t (.mk h l)) (h6 : h.kind = 6) : ListT (kidParts l) t 0 := by
  have hok := hm.1.1
  have hkey : h.key = none_ := hm.1.2.1
  simp only [J.Ok] at hok
  rcases hok with ⟨h', _⟩ | ⟨_, hp, _, hk⟩ | ⟨h', _⟩
  · rcases h' with ⟨h' | h' | h', _⟩ | ⟨h', _⟩ | ⟨h', _⟩ <;> omega
  · refine .inr ⟨_, kids_all hm, ?_⟩
    have e : l.map J.unkey = l := by
      conv => rhs; rw [← List.map_id l]
      exact List.map_congr_left fun j hj => unkey_same (hk j hj)
    rw [e]
    obtain ⟨k, ky, n, s⟩ := h
    simp only at h6 hkey
    obtain ⟨rfl, rfl⟩ := hp
    subst h6 hkey
    exact whole_again hm
  · omega
theorem rekey_again : ∀ l : List J, rekeys (l.map J.key) (l.map J.unkey) = l
  | [] => rfl
  | j :: l => by
    simp only [List.map_cons, rekeys]
    rw [rekey_again l]
    cases j with
    | mk h m => rfl
theorem keys_err {V : ByteArray → Bool} : ∀ (l : List ByteArray) (had : List ByteArray), keysOk V had l → ∀ (i : Nat), (hi : i < l.length) → V l[i] = true ∧ l[i] ∉ had ++ l.take i
  | [], _, _, i, hi => by simp at hi
  | k :: ks, had, h, 0, _ => by
    obtain ⟨h1, h2, _⟩ := h
    exact ⟨h1, by simpa using h2⟩
  | k :: ks, had, h, i + 1, hi => by
    obtain ⟨_, _, h3⟩ := h
    have := keys_err ks _ h3 i (by simpa using hi)
    refine ⟨this.1, ?_⟩
    have h2 := this.2
    rw [List.append_assoc] at h2
    simpa using h2
theorem obj_again {t : List Nd} {h : Hd} {l : List J} (hm : May t (.mk h l)) (h7 : h.kind = 7) : ObjT (l.map J.key) (kidParts l) t 0 := by
  have hok := hm.1.1
  have hkey : h.key = none_ := hm.1.2.1
  simp only [J.Ok] at hok
  rcases hok with ⟨h', _⟩ | ⟨h', _⟩ | ⟨_, hp, _, hk⟩
  · rcases h' with ⟨h' | h' | h', _⟩ | ⟨h', _⟩ | ⟨h', _⟩ <;> omega
  · omega
  · refine .inr ⟨by simp [kidParts], .inr ⟨fun j hj => ?_, _, kids_all hm, ?_⟩⟩
    · have hjl : j < l.length := by simpa [kidParts] using hj
      have hjk : j < (l.map J.key).length := by simpa using hjl
      obtain ⟨k1, k2⟩ := keys_err _ _ hk j hjk
      rw [objErr_chk hjk hj k1 (by rw [hasKey_not]; simpa using k2)]
      simp only [kidParts, List.getElem_map]
      exact chkT_may (kid_may hm _ (List.getElem_mem hjl))
    · rw [rekey_again]
      obtain ⟨k, ky, n, s⟩ := h
      simp only at h7 hkey
      obtain ⟨rfl, rfl⟩ := hp
      subst h7 hkey
      exact whole_again hm
theorem kids_leaf {t : List Nd} {h : Hd} {l : List J} (hm : May t (.mk h l)) (hk : h.kind < 6) : l = [] := by
  have hok := hm.1.1
  simp only [J.Ok] at hok
  rcases hok with ⟨_, h⟩ | ⟨h, _⟩ | ⟨h, _⟩
  · exact h
  · omega
  · omega
theorem kind_may {t : List Nd} {h : Hd} {l : List J} (hm : May t (.mk h l)) : h.kind < 6 ∨ h.kind = 6 ∨ h.kind = 7 := by
  have hok := hm.1.1
  simp only [J.Ok] at hok
  rcases hok with ⟨h', _⟩ | ⟨h, _⟩ | ⟨h, _⟩
  · rcases h' with ⟨h' | h' | h', _⟩ | ⟨h', _⟩ | ⟨h', _⟩ <;> omega
  · exact .inr (.inl h)
  · exact .inr (.inr h)
theorem sub_may {t : List Nd} {j j' : J} {a : Nat} {r : List Nd} (hm : May t j) (hd : t.drop a = j'.flat ++ r) (hok : J.Ok vU j') (hdp : j'.deep ≤ j.deep) : May j'.unkey.flat j'.unkey := by
  refine ⟨⟨unkey_ok hok, unkey_key _, rfl⟩, ?_, ?_⟩
  · rw [unkey_size]
    have e := congrArg List.length hd
    rw [List.length_append, List.length_drop] at e
    have := hm.2.1
    omega
  · rw [unkey_deep]
    have := hm.2.2
    omega
theorem kid_texts {t : List Nd} {h : Hd} {l : List J} (ht : TextsOk t) (e : t = J.flat (.mk h l)) : ∀ j ∈ l, TextsOk j.unkey.flat ∧ j.key.size ≤ maxLen := by
  intro j hj
  obtain ⟨l1, l2, rfl⟩ := List.append_of_mem hj
  have hd := kid_drop e
  refine ⟨texts_at ht hd, ?_⟩
  obtain ⟨ha, hx⟩ := head_flat hd
  have := (ht _ (List.getElem_mem ha)).1
  rw [hx] at this
  exact this
theorem kidParts_texts {t : List Nd} {h : Hd} {l : List J} (ht : TextsOk t) (e : t = J.flat (.mk h l)) : ∀ p ∈ kidParts l, TextsOk p := by
  intro p hp
  obtain ⟨j, hj, rfl⟩ := List.mem_map.1 hp
  exact (kid_texts ht e j hj).1
theorem kidKeys_texts {t : List Nd} {h : Hd} {l : List J} (ht : TextsOk t) (e : t = J.flat (.mk h l)) : ∀ s ∈ l.map J.key, s.size ≤ maxLen := by
  intro s hs
  obtain ⟨j, hj, rfl⟩ := List.mem_map.1 hs
  exact (kid_texts ht e j hj).2
theorem root_at {t : List Nd} {h : Hd} {l : List J} (e : t = J.flat (.mk h l)) : t[0]? = some ⟨h.kind, h.key, h.n, h.s, (J.flats l).length + 1⟩ := by
  rw [e, flat_mk]
  rfl
end Go.Proofs.YtmolmphbhdbcaaaGreatDoor
