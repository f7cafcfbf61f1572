/- An object whose members are turned, or of which one is another one: plain laws. -/
import Derived.Test.YtkefhhnbkhijgaaDoorApartL
import Derived.Test.YtkefhhnbkhijgaaDoorSameT
namespace Go.Proofs.YtkefhhnbkhijgaaDoor
open Go.RowKit

/-- a list, turned -/
def rotL {α : Type} (r : Nat) (l : List α) : List α := l.drop r ++ l.take r
theorem rotL_len {α : Type} (r : Nat) (l : List α) : (rotL r l).length = l.length := by simp [rotL]; omega
theorem rotL_perm {α : Type} (r : Nat) (l : List α) : (rotL r l).Perm l := by
  have h : (l.drop r ++ l.take r).Perm (l.take r ++ l.drop r) := List.perm_append_comm
  rwa [List.take_append_drop] at h
theorem rotL_get {α : Type} {r i : Nat} {l : List α} (hr : r < l.length) (hi : i < l.length) (h : (i + r) % l.length < l.length) (h' : i < (rotL r l).length) : (rotL r l)[i] = l[(i + r) % l.length] := by
  unfold rotL at h' ⊢
  rcases Nat.lt_or_ge i (l.length - r) with hlt | hge
  · rw [List.getElem_append_left (by simpa using hlt), List.getElem_drop]
    congr 1
    rw [Nat.mod_eq_of_lt (by omega)]
    omega
  · rw [List.getElem_append_right (by simpa using hge), List.getElem_take]
    congr 1
    rw [Nat.mod_eq_sub_mod (by omega), Nat.mod_eq_of_lt (by omega)]
    simp
    omega
theorem rekeys_append : ∀ {k1 : List ByteArray} {j1 : List J} {k2 : List ByteArray} {j2 : List J}, k1.length = j1.length → rekeys (k1 ++ k2) (j1 ++ j2) = rekeys k1 j1 ++ rekeys k2 j2
  | [], [], _, _, _ => rfl
  | a :: k1, b :: j1, k2, j2, h => by
    simp only [List.cons_append, rekeys]
    rw [rekeys_append (by simpa using h)]
theorem rekeys_drop : ∀ (r : Nat) (ks : List ByteArray) (js : List J), ks.length = js.length → rekeys (ks.drop r) (js.drop r) = (rekeys ks js).drop r
  | 0, _, _, _ => rfl
  | r + 1, [], [], _ => rfl
  | r + 1, k :: ks, j :: js, h => by simp only [List.drop_succ_cons, rekeys]; exact rekeys_drop r ks js (by simpa using h)
theorem rekeys_take : ∀ (r : Nat) (ks : List ByteArray) (js : List J), ks.length = js.length → rekeys (ks.take r) (js.take r) = (rekeys ks js).take r
  | 0, _, _, _ => rfl
  | r + 1, [], [], _ => rfl
  | r + 1, k :: ks, j :: js, h => by simp only [List.take_succ_cons, rekeys]; rw [rekeys_take r ks js (by simpa using h)]
theorem rekeys_rot (r : Nat) (ks : List ByteArray) (js : List J) (h : ks.length = js.length) : rekeys (rotL r ks) (rotL r js) = rotL r (rekeys ks js) := by
  unfold rotL
  rw [rekeys_append (by simp [h]), rekeys_drop r ks js h, rekeys_take r ks js h]
theorem deeps_perm {l l' : List J} (h : l.Perm l') : J.deeps l = J.deeps l' := by
  induction h with
  | nil => rfl
  | cons x _ ih => simp only [J.deeps, ih]
  | swap x y l => simp only [J.deeps]; omega
  | trans _ _ h1 h2 => exact h1.trans h2
theorem KidsA.rot {pl : List (List Nd)} {js : List J} {d z : Nat} (h : KidsA pl js d z) {r : Nat} (hr : r < pl.length) : KidsA (rotL r pl) (rotL r js) d z where
  may := by
    refine ⟨by rw [rotL_len, rotL_len, h.may.1], fun i hi hi' => ?_⟩
    have hl := h.may.1
    rw [rotL_len] at hi hi'
    have hm : (i + r) % pl.length < pl.length := Nat.mod_lt _ (by omega)
    have hm' : (i + r) % js.length < js.length := Nat.mod_lt _ (by omega)
    rw [rotL_get hr hi hm, rotL_get (by omega) hi' hm']
    have e : (i + r) % pl.length = (i + r) % js.length := by rw [hl]
    have h2 := h.may.2 _ hm (by rw [e]; exact hm')
    simp only [e] at h2 ⊢
    exact h2
  texts p hp := h.texts p ((rotL_perm r pl).mem_iff.1 hp)
  deeps := by rw [deeps_perm (rotL_perm r js)]; exact h.deeps
  size := by rw [flats_perm (rotL_perm r js)]; exact h.size
theorem KeysA.rot {ks : List ByteArray} (h : KeysA ks) (r : Nat) : KeysA (rotL r ks) where
  valid s hs := h.valid s ((rotL_perm r ks).mem_iff.1 hs)
  nodup := (rotL_perm r ks).nodup_iff.2 h.nodup
  size s hs := h.size s ((rotL_perm r ks).mem_iff.1 hs)
theorem apt_rekeys {ks : List ByteArray} {js : List J} (h : ks.Nodup) (hl : ks.length = js.length) : AptJ (rekeys ks js) := by
  have h2 : ((rekeys ks js).map J.key).Nodup := by rw [rekeys_keys hl]; exact h
  exact List.pairwise_map.1 h2
theorem apt_sorts {l : List J} (h : AptJ l) : AptJ (J.sorts l) := by
  rw [sorts_map]
  exact List.pairwise_map.2 (h.imp fun {a b} hab => by rw [sort_key, sort_key]; exact hab)
theorem ord_perm_same {l l' : List J} (hp : l.Perm l') (h : AptJ l) : ordJ (J.sorts l) = ordJ (J.sorts l') := by
  have h' : AptJ l' := hp.pairwise h fun {a b} hab => hab.symm
  refine up_unique ?_ (ordJ_up (apt_sorts h)) (ordJ_up (apt_sorts h'))
  refine (ordJ_perm _).trans (List.Perm.trans ?_ (ordJ_perm _).symm)
  rw [sorts_map, sorts_map]
  exact hp.map _
theorem sort_rot {ks : List ByteArray} {js : List J} (r : Nat) (hn : ks.Nodup) (hl : ks.length = js.length) : (objOf (rotL r ks) (rotL r js)).sort = (objOf ks js).sort := by
  unfold objOf
  rw [rekeys_rot r ks js hl, J.sort, J.sort, if_pos rfl, if_pos rfl, ord_perm_same (rotL_perm r (rekeys ks js)) ((rotL_perm r (rekeys ks js)).symm.pairwise (apt_rekeys hn hl) fun {a b} hab => hab.symm)]
theorem SameT.known {a b : List Nd} {ja jb : J} {B : Bool} (h : SameT a b B) (ha : May a ja) (hb : May b jb) : B = sameNds ja.sort.flat jb.sort.flat := by
  rcases h with ⟨h0, _⟩ | ⟨ja', jb', ha', hb', rfl⟩
  · rcases h0 with h0 | h0
    · exact absurd (chkT_may ha) h0
    · exact absurd (chkT_may hb) h0
  · rw [flat_inj (ha.1.2.2.symm.trans ha'.1.2.2), flat_inj (hb.1.2.2.symm.trans hb'.1.2.2)]
theorem same_sorts {a b : List Nd} {ja jb : J} {B : Bool} (h : SameT a b B) (ha : May a ja) (hb : May b jb) (e : ja.sort = jb.sort) : B = true := by
  rw [h.known ha hb, e]
  simp [sameNds]
theorem same_not {a b : List Nd} {ja jb : J} {B : Bool} (h : SameT a b B) (ha : May a ja) (hb : May b jb) (e : a.length ≠ b.length) : B = false := by
  rw [h.known ha hb]
  refine same_len ?_
  rw [sort_len.1, sort_len.1, ← ha.1.2.2, ← hb.1.2.2]
  exact e
/-- parts of which one is another one -/
theorem KidsA.set {pl : List (List Nd)} {js : List J} {d z : Nat} (h : KidsA pl js d z) {r : Nat} {t : List Nd} {j : J} (hm : May t j) (ht : TextsOk t) (hd : j.deep ≤ d) (hr : r < pl.length) (hz : (J.flats (js.set r j)).length ≤ z) : KidsA (pl.set r t) (js.set r j) d z where
  may := by
    refine ⟨by simp [h.may.1], fun i hi hi' => ?_⟩
    have hl := h.may.1
    simp only [List.length_set] at hi hi'
    rw [List.getElem_set, List.getElem_set]
    split
    · exact hm
    · exact h.may.2 i hi hi'
  texts p hp := by
    rcases List.mem_or_eq_of_mem_set hp with hp | rfl
    · exact h.texts p hp
    · exact ht
  deeps := by
    have hj : r < js.length := by rw [← h.may.1]; exact hr
    have h1 := h.deeps
    have e := List.set_eq_take_append_cons_drop (l := js) (i := r) (a := j)
    rw [if_pos hj] at e
    have e2 : js = js.take r ++ js.drop r := (List.take_append_drop r js).symm
    have e3 : js.drop r = js[r] :: js.drop (r + 1) := List.drop_eq_getElem_cons hj
    rw [e2, e3, deeps_append] at h1
    rw [e, deeps_append]
    simp only [J.deeps] at h1 ⊢
    omega
  size := hz
theorem flats_set {js : List J} {r : Nat} (hr : r < js.length) (j : J) : (J.flats (js.set r j)).length + js[r].flat.length = (J.flats js).length + j.flat.length := by
  have e := List.set_eq_take_append_cons_drop (l := js) (i := r) (a := j)
  rw [if_pos hr] at e
  have e2 : js = js.take r ++ js.drop r := (List.take_append_drop r js).symm
  have e3 : js.drop r = js[r] :: js.drop (r + 1) := List.drop_eq_getElem_cons hr
  have e4 : (J.flats js).length = (J.flats (js.take r)).length + (js[r].flat.length + (J.flats (js.drop (r + 1))).length) := by
    rw [← List.length_append, ← flats_cons, ← List.length_append, ← flats_append, ← e3, ← e2]
  rw [e, flats_append, flats_cons, List.length_append, List.length_append, e4]
  omega
end Go.Proofs.YtkefhhnbkhijgaaDoor
