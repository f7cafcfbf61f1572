/- A list, and an object, of a few parts: plain laws. -/
import Derived.Test.YtkefhhnbkhijgaaDoorSeedL
import Derived.Test.YtkefhhnbkhijgaaDoorGetT
namespace Go.Proofs.YtkefhhnbkhijgaaDoor
open Go.RowKit

/-- a few parts that may be -/
structure KidsA (pl : List (List Nd)) (js : List J) (d z : Nat) : Prop where
  may : AllMay pl js
  texts : ∀ p ∈ pl, TextsOk p
  deeps : J.deeps js ≤ d
  size : (J.flats js).length ≤ z
theorem KidsA.nil (d : Nat) : KidsA [] [] d 0 := ⟨⟨rfl, fun i h => absurd h (by simp)⟩, by simp, by simp [J.deeps], by simp [J.flats]⟩
theorem KidsA.next {pl : List (List Nd)} {js : List J} {d z : Nat} (h : KidsA pl js d z) {t : List Nd} {j : J} (hm : May t j) (ht : TextsOk t) (hd : j.deep ≤ d) {z' : Nat} (hz : z + t.length ≤ z') : KidsA (pl ++ [t]) (js ++ [j]) d z' where
  may := by
    refine ⟨by simp [h.may.1], fun k hk hk' => ?_⟩
    have hl := h.may.1
    rcases Nat.lt_or_ge k pl.length with hlt | hge
    · rw [List.getElem_append_left hlt, List.getElem_append_left (by omega)]
      exact h.may.2 k hlt (by omega)
    · rw [List.getElem_append_right hge, List.getElem_append_right (by omega)]
      simpa using hm
  texts := by
    intro p hp
    rcases List.mem_append.1 hp with hp | hp
    · exact h.texts p hp
    · simp at hp
      subst hp
      exact ht
  deeps := by
    have := h.deeps
    rw [deeps_append]
    simp only [J.deeps]
    omega
  size := by
    have := h.size
    have e := hm.1.2.2
    rw [flats_append, flats_one, List.length_append, ← e]
    omega
/-- the list, the object, of parts -/
def listOf (js : List J) : J := .mk ⟨6, none_, 0, none_⟩ js
def objOf (ks : List ByteArray) (js : List J) : J := .mk ⟨7, none_, 0, none_⟩ (rekeys ks js)
/-- keys that an object may have -/
structure KeysA (ks : List ByteArray) : Prop where
  valid : ∀ s ∈ ks, vU s = true
  nodup : ks.Nodup
  size : ∀ s ∈ ks, s.size ≤ maxLen
section
variable {pl : List (List Nd)} {js : List J} {ks : List ByteArray} {d z : Nat}
theorem KidsA.list_may (h : KidsA pl js d z) (hd : d < 64) (hz : z < 4000) : May (listOf js).flat (listOf js) := by
  have h1 := h.size
  have h3 := h.deeps
  refine ⟨⟨?_, rfl, rfl⟩, ?_, ?_⟩
  · unfold listOf
    simp only [J.Ok]
    exact .inr (.inl ⟨by trivial, ⟨rfl, rfl⟩, allMay_oks h.may, allMay_keys h.may⟩)
  · rw [listOf, flat_mk, List.length_cons]; omega
  · simp only [listOf, J.deep]; omega
theorem KidsA.list (h : KidsA pl js d z) (hd : d < 64) (hz : z < 4000) : ListT pl (listOf js).flat 0 :=
  .inr ⟨js, h.may, .inr (.inr ⟨by have := h.size; omega, by have := h.deeps; omega, rfl, rfl⟩)⟩
theorem KidsA.list_texts (h : KidsA pl js d z) : TextsOk (listOf js).flat := texts_root (texts_flats (allMay_texts h.may h.texts))
theorem KidsA.obj_may (h : KidsA pl js d z) (hd : d < 64) (hz : z < 4000) (hk : ks.length = pl.length) (hv : KeysA ks) : May (objOf ks js).flat (objOf ks js) := by
  have h1 := h.size
  have h3 := h.deeps
  have hkj : ks.length = js.length := hk.trans h.may.1
  have hdp := rekeys_deeps ks js hkj
  refine ⟨⟨?_, rfl, rfl⟩, ?_, ?_⟩
  · unfold objOf
    simp only [J.Ok]
    refine .inr (.inr ⟨by trivial, ⟨rfl, rfl⟩, rekeys_oks (allMay_oks h.may), ?_⟩)
    rw [rekeys_keys hkj]
    exact keysOk_of hv.valid hv.nodup (by simp)
  · rw [objOf, flat_mk, List.length_cons, rekeys_flats hkj]; omega
  · simp only [objOf, J.deep]; omega
theorem KidsA.obj (h : KidsA pl js d z) (hd : d < 64) (hz : z < 4000) (hk : ks.length = pl.length) (hv : KeysA ks) : ObjT ks pl (objOf ks js).flat 0 := by
  have hkj : ks.length = js.length := hk.trans h.may.1
  have hdp := rekeys_deeps ks js hkj
  refine .inr ⟨hk, .inr ⟨fun j hj => ?_, js, h.may, .inr (.inr ⟨by rw [rekeys_flats hkj]; have := h.size; omega, by have := h.deeps; omega, rfl, rfl⟩)⟩⟩
  have hjk : j < ks.length := by rw [hk]; exact hj
  rw [objErr_chk hjk hj (hv.valid _ (List.getElem_mem hjk)) (by
    rw [hasKey_not]
    intro hm
    obtain ⟨i, hi, e⟩ := List.mem_take_iff_getElem.1 hm
    have := (List.getElem_inj hv.nodup).1 e
    omega)]
  exact allMay_chk h.may j hj
theorem KidsA.obj_texts (h : KidsA pl js d z) (hv : KeysA ks) : TextsOk (objOf ks js).flat := texts_root (texts_rekeys hv.size (allMay_texts h.may h.texts))
theorem list_len (js : List J) : (listOf js).flat.length = (J.flats js).length + 1 := by rw [listOf, flat_mk, List.length_cons]
theorem KidsA.obj_len (h : KidsA pl js d z) (hk : ks.length = pl.length) : (objOf ks js).flat.length = (J.flats js).length + 1 := by
  rw [objOf, flat_mk, List.length_cons, rekeys_flats (hk.trans h.may.1)]
end
theorem starts_rekeys : ∀ (ks : List ByteArray) (js : List J) (a : Nat), ks.length = js.length → starts a (rekeys ks js) = starts a js
  | [], [], _, _ => rfl
  | k :: ks, j :: js, a, h => by
    simp only [rekeys, starts, rekey_size]
    rw [starts_rekeys ks js _ (by simpa using h)]
theorem rekeys_split : ∀ {k1 : List ByteArray} {j1 : List J} {k : ByteArray} {j : J} {k2 : List ByteArray} {j2 : List J}, k1.length = j1.length → rekeys (k1 ++ k :: k2) (j1 ++ j :: j2) = rekeys k1 j1 ++ j.rekey k :: rekeys k2 j2
  | [], [], _, _, _, _, _ => rfl
  | a :: k1, b :: j1, k, j, k2, j2, h => by
    simp only [List.cons_append, rekeys]
    rw [rekeys_split (by simpa using h)]
theorem rekey_unkey (k : ByteArray) (j : J) : (j.rekey k).unkey = j.unkey := by cases j; rfl
section
variable {pl : List (List Nd)} {js : List J} {ks : List ByteArray} {d z : Nat}
theorem KidsA.flat_at (h : KidsA pl js d z) {i : Nat} (hi : i < pl.length) (hj : i < js.length) : js[i].unkey.flat = pl[i] := by
  have hm := h.may.2 i hi hj
  rw [unkey_same hm.1.2.1, hm.1.2.2]
theorem KidsA.part_list (h : KidsA pl js d z) (hd : d < 64) (hz : z < 4000) {i : Nat} (hi : i < pl.length) : PartT (listOf js).flat ((0 + 1 + (J.flats (js.take i)).length : Nat) : Int) pl[i] := by
  have hj : i < js.length := by rw [← h.may.1]; exact hi
  have hsplit : js = js.take i ++ js[i] :: js.drop (i + 1) := by rw [← List.drop_eq_getElem_cons hj, List.take_append_drop]
  have hm := h.list_may hd hz
  rw [← h.flat_at hi hj]
  refine part_kid (h := ⟨6, none_, 0, none_⟩) (l2 := js.drop (i + 1)) ?_
  rw [← hsplit]
  exact hm
theorem keys_split {i : Nat} (hk : ks.length = js.length) (hj : i < js.length) (hik : i < ks.length) : rekeys ks js = rekeys (ks.take i) (js.take i) ++ js[i].rekey ks[i] :: rekeys (ks.drop (i + 1)) (js.drop (i + 1)) := by
  have e1 : js = js.take i ++ js[i] :: js.drop (i + 1) := by rw [← List.drop_eq_getElem_cons hj, List.take_append_drop]
  have e2 : ks = ks.take i ++ ks[i] :: ks.drop (i + 1) := by rw [← List.drop_eq_getElem_cons hik, List.take_append_drop]
  have := rekeys_split (k1 := ks.take i) (j1 := js.take i) (k := ks[i]) (j := js[i]) (k2 := ks.drop (i + 1)) (j2 := js.drop (i + 1)) (by simp; omega)
  rwa [← e1, ← e2] at this
theorem KidsA.part_obj (h : KidsA pl js d z) (hd : d < 64) (hz : z < 4000) (hk : ks.length = pl.length) (hv : KeysA ks) {i : Nat} (hi : i < pl.length) : PartT (objOf ks js).flat ((0 + 1 + (J.flats (js.take i)).length : Nat) : Int) pl[i] := by
  have hkj : ks.length = js.length := hk.trans h.may.1
  have hj : i < js.length := by rw [← h.may.1]; exact hi
  have hik : i < ks.length := by omega
  have hm := h.obj_may hd hz hk hv
  have hs := keys_split hkj hj hik
  have hf : (J.flats (rekeys (ks.take i) (js.take i))).length = (J.flats (js.take i)).length := rekeys_flats (by simp; omega)
  rw [← h.flat_at hi hj, ← hf, ← rekey_unkey ks[i] js[i]]
  refine part_kid (h := ⟨7, none_, 0, none_⟩) (l2 := rekeys (ks.drop (i + 1)) (js.drop (i + 1))) ?_
  rw [← hs]
  exact hm
theorem KidsA.get_obj (h : KidsA pl js d z) (hd : d < 64) (hz : z < 4000) (hk : ks.length = pl.length) (hv : KeysA ks) {i : Nat} (hi : i < pl.length) (hik : i < ks.length) : GetT (objOf ks js).flat ks[i] pl[i] true := by
  have hkj : ks.length = js.length := hk.trans h.may.1
  have hj : i < js.length := by rw [← h.may.1]; exact hi
  have hm := h.obj_may hd hz hk hv
  have hs := keys_split hkj hj hik
  refine .inr ⟨_, _, hm, rfl, .inr ⟨js[i].rekey ks[i], ?_, ?_, rfl⟩⟩
  · rw [hs, member_none, member_here (rekey_key _ _)]
    intro x hx
    have : x.key ∈ (rekeys (ks.take i) (js.take i)).map J.key := List.mem_map.2 ⟨x, hx, rfl⟩
    rw [rekeys_keys (by simp; omega)] at this
    obtain ⟨n, hn, e⟩ := List.mem_take_iff_getElem.1 this
    rw [← e]
    intro e2
    have := (List.getElem_inj hv.nodup).1 e2
    omega
  · rw [rekey_unkey, h.flat_at hi hj]
end
end Go.Proofs.YtkefhhnbkhijgaaDoor
