/- Values made of parts with keys of their own: plain laws. -/
import Derived.Test.YtkefhhnbkhijgaaDoorAgainL
import Derived.Test.YtkefhhnbkhijgaaDoorWord
namespace Go.Proofs.YtkefhhnbkhijgaaDoor
open Go.RowKit

theorem rekey_ok {V : ByteArray → Bool} {k : ByteArray} {j : J} (h : J.Ok V j) : J.Ok V (j.rekey k) := by
  cases j with
  | mk hd l =>
    simp only [J.rekey, J.Ok, leafOk, plainHd] at *
    exact h
theorem rekeys_oks {V : ByteArray → Bool} : ∀ {ks : List ByteArray} {js : List J}, J.Oks V js → J.Oks V (rekeys ks js)
  | [], _, _ => by simp [rekeys, J.Oks]
  | _ :: _, [], _ => by simp [rekeys, J.Oks]
  | k :: ks, j :: js, h => by
    simp only [J.Oks] at h
    simp only [rekeys, J.Oks]
    exact ⟨rekey_ok h.1, rekeys_oks h.2⟩
theorem rekey_key (k : ByteArray) (j : J) : (j.rekey k).key = k := by cases j; rfl
theorem rekeys_keys : ∀ {ks : List ByteArray} {js : List J}, ks.length = js.length → (rekeys ks js).map J.key = ks
  | [], [], _ => rfl
  | k :: ks, j :: js, h => by
    simp only [rekeys, List.map_cons, rekey_key]
    rw [rekeys_keys (by simpa using h)]
theorem rekeys_flats : ∀ {ks : List ByteArray} {js : List J}, ks.length = js.length → (J.flats (rekeys ks js)).length = (J.flats js).length
  | [], [], _ => rfl
  | k :: ks, j :: js, h => by
    rw [rekeys, flats_cons, flats_cons, List.length_append, List.length_append, rekey_size, rekeys_flats (by simpa using h)]
theorem keysOk_of {V : ByteArray → Bool} : ∀ {ks had : List ByteArray}, (∀ s ∈ ks, V s = true) → ks.Nodup → (∀ s ∈ ks, s ∉ had) → keysOk V had ks
  | [], _, _, _, _ => by simp [keysOk]
  | k :: ks, had, h1, h2, h3 => by
    obtain ⟨h4, h5⟩ := List.nodup_cons.1 h2
    refine ⟨h1 k (by simp), h3 k (by simp), keysOk_of (fun s hs => h1 s (by simp [hs])) h5 fun s hs => ?_⟩
    simp only [List.mem_append, List.mem_singleton, not_or]
    exact ⟨h3 s (by simp [hs]), fun e => h4 (e ▸ hs)⟩
theorem texts_rekey {k : ByteArray} {j : J} (hk : k.size ≤ maxLen) (h : TextsOk j.flat) : TextsOk (j.rekey k).flat := by
  cases j with
  | mk hd l =>
    intro x hx
    rw [J.rekey, flat_mk, List.mem_cons] at hx
    rcases hx with rfl | hx
    · exact ⟨hk, (h ⟨hd.kind, hd.key, hd.n, hd.s, (J.flats l).length + 1⟩ (by rw [flat_mk]; exact List.mem_cons_self)).2⟩
    · exact h x (by rw [flat_mk]; exact List.mem_cons_of_mem _ hx)
theorem texts_rekeys : ∀ {ks : List ByteArray} {js : List J}, (∀ s ∈ ks, s.size ≤ maxLen) → (∀ j ∈ js, TextsOk j.flat) → TextsOk (J.flats (rekeys ks js))
  | [], _, _, _ => by intro x hx; simp [rekeys, J.flats] at hx
  | _ :: _, [], _, _ => by intro x hx; simp [rekeys, J.flats] at hx
  | k :: ks, j :: js, h1, h2 => by
    intro x hx
    rw [rekeys, flats_cons, List.mem_append] at hx
    rcases hx with hx | hx
    · exact texts_rekey (h1 k (by simp)) (h2 j (by simp)) x hx
    · exact texts_rekeys (fun s hs => h1 s (by simp [hs])) (fun j hj => h2 j (by simp [hj])) x hx
theorem texts_flats {js : List J} (h : ∀ j ∈ js, TextsOk j.flat) : TextsOk (J.flats js) := by
  induction js with
  | nil => intro x hx; simp [J.flats] at hx
  | cons j js ih =>
    intro x hx
    rw [flats_cons, List.mem_append] at hx
    rcases hx with hx | hx
    · exact h j (by simp) x hx
    · exact ih (fun y hy => h y (by simp [hy])) x hx
theorem texts_root {k : Int} {l : List J} (h : TextsOk (J.flats l)) : TextsOk (J.flat (.mk ⟨k, none_, 0, none_⟩ l)) := by
  intro x hx
  rw [flat_mk, List.mem_cons] at hx
  rcases hx with rfl | hx
  · exact ⟨Nat.zero_le _, Nat.zero_le _⟩
  · exact h x hx
/-- the parts of a list, or an object, that a seed makes -/
structure KidsS (deep n0 i : Nat) (js : List J) (pl : List (List Nd)) (ks : List ByteArray) (m : Nat) : Prop where
  may : AllMay pl js
  texts : ∀ p ∈ pl, TextsOk p
  deeps : J.deeps js + deep ≤ 7
  len : pl.length + i ≤ 4
  klen : ks.length = pl.length
  size : (J.flats js).length + 2 * m + 4 ≤ pl.length + 2 * n0
  left : m ≤ n0
  keys : ∀ s ∈ ks, ∃ x ∈ words, ∃ c, i < c ∧ c < 5 ∧ s = x ++ letterAt c
  nodup : ks.Nodup
theorem KidsS.zero {deep n0 i m : Nat} (hd : deep ≤ 7) (hi : i ≤ 4) (hm : m + 2 ≤ n0) : KidsS deep n0 i [] [] [] m where
  may := ⟨rfl, fun i h => absurd h (by simp)⟩
  texts := by simp
  deeps := by simp only [J.deeps]; omega
  len := by simpa using hi
  klen := rfl
  size := by simp only [J.flats, List.length_nil]; omega
  left := by omega
  keys := by simp
  nodup := List.nodup_nil
theorem KidsS.next {deep n0 i m m' : Nat} {js : List J} {pl : List (List Nd)} {ks : List ByteArray} (h : KidsS deep n0 (i + 1) js pl ks m) {t : List Nd} {j : J} {x : ByteArray} (hm : May t j) (ht : TextsOk t) (hd : j.deep + (deep + 1) ≤ 8) (hs : t.length + 2 * m' ≤ 1 + 2 * m) (hl : m' ≤ m) (hx : x ∈ words) {m2 : Nat} (hm2 : m2 ≤ m') :
    KidsS deep n0 i (js ++ [j]) (pl ++ [t]) (ks ++ [x ++ letterAt (i + 1)]) m2 where
  may := by
    refine ⟨by simp [h.may.1], fun k hk hk' => ?_⟩
    have hl := h.may.1
    rcases Nat.lt_or_ge k pl.length with hlt | hge
    · rw [List.getElem_append_left hlt, List.getElem_append_left (by omega)]
      exact h.may.2 k hlt (by omega)
    · rw [List.getElem_append_right hge, List.getElem_append_right (by omega)]
      simpa using hm
  texts := by
    intro p hp
    rcases List.mem_append.1 hp with hp | hp
    · exact h.texts p hp
    · simp at hp
      subst hp
      exact ht
  deeps := by
    have := h.deeps
    rw [deeps_append]
    simp only [J.deeps]
    omega
  len := by have := h.len; simp; omega
  klen := by simp [h.klen]
  size := by
    have := h.size
    have e := hm.1.2.2
    rw [flats_append, flats_one, List.length_append, ← e]
    simp only [List.length_append, List.length_cons, List.length_nil]
    omega
  left := by have := h.left; omega
  keys := by
    intro s hs
    rcases List.mem_append.1 hs with hs | hs
    · obtain ⟨y, h1, c, h2, h3, h4⟩ := h.keys s hs
      exact ⟨y, h1, c, by omega, h3, h4⟩
    · simp at hs
      subst hs
      exact ⟨x, hx, i + 1, by omega, by have := h.len; omega, rfl⟩
  nodup := by
    have hlen := h.len
    refine List.nodup_append.2 ⟨h.nodup, by simp, fun s hs u hu => ?_⟩
    simp at hu
    subst hu
    rintro rfl
    obtain ⟨y, h1, c, h2, h3, h4⟩ := h.keys _ hs
    have := letter_apart (i := i + 1) (j := c) (by omega) h3 h4
    omega
theorem KidsS.key_size {deep n0 i m : Nat} {js : List J} {pl : List (List Nd)} {ks : List ByteArray} (h : KidsS deep n0 i js pl ks m) : ∀ s ∈ ks, s.size ≤ 5 := by
  intro s hs
  obtain ⟨x, h1, c, _, _, rfl⟩ := h.keys s hs
  have := words_size x h1
  rw [ByteArray.size_append]
  have e : (letterAt c).size = 1 := rfl
  omega
theorem KidsS.key_valid {deep n0 i m : Nat} {js : List J} {pl : List (List Nd)} {ks : List ByteArray} (h : KidsS deep n0 i js pl ks m) : ∀ s ∈ ks, vU s = true := by
  intro s hs
  obtain ⟨x, h1, c, _, h3, rfl⟩ := h.keys s hs
  exact word_letter x h1 c h3
theorem allMay_oks {pl : List (List Nd)} {js : List J} (h : AllMay pl js) : J.Oks vU js := oks_of fun j hj => by
  obtain ⟨i, hi, rfl⟩ := List.getElem_of_mem hj
  exact (h.2 i (by have := h.1; omega) hi).1.1
theorem allMay_texts {pl : List (List Nd)} {js : List J} (h : AllMay pl js) (ht : ∀ p ∈ pl, TextsOk p) : ∀ j ∈ js, TextsOk j.flat := by
  intro j hj
  obtain ⟨i, hi, rfl⟩ := List.getElem_of_mem hj
  have hip : i < pl.length := by have := h.1; omega
  rw [← (h.2 i hip hi).1.2.2]
  exact ht _ (List.getElem_mem hip)
theorem KidsS.list {deep n0 i m : Nat} {js : List J} {pl : List (List Nd)} {ks : List ByteArray} (h : KidsS deep n0 i js pl ks m) (hn : n0 ≤ 150) :
    May (J.flat (.mk ⟨6, none_, 0, none_⟩ js)) (.mk ⟨6, none_, 0, none_⟩ js) ∧ ListT pl (J.flat (.mk ⟨6, none_, 0, none_⟩ js)) 0 ∧ TextsOk (J.flat (.mk ⟨6, none_, 0, none_⟩ js)) ∧ (J.flat (.mk ⟨6, none_, 0, none_⟩ js)).length + 2 * m ≤ 1 + 2 * n0 ∧ (J.mk ⟨6, none_, 0, none_⟩ js).deep + deep ≤ 8 := by
  have h1 := h.size
  have h2 := h.len
  have h3 := h.deeps
  have hlen : (J.flat (.mk ⟨6, none_, 0, none_⟩ js)).length = (J.flats js).length + 1 := by rw [flat_mk, List.length_cons]
  refine ⟨⟨⟨?_, rfl, rfl⟩, by omega, by simp only [J.deep]; omega⟩, .inr ⟨js, h.may, .inr (.inr ⟨by omega, by omega, rfl, rfl⟩)⟩, texts_root (texts_flats (allMay_texts h.may h.texts)), by omega, by simp only [J.deep]; omega⟩
  simp only [J.Ok]
  exact .inr (.inl ⟨by trivial, ⟨rfl, rfl⟩, allMay_oks h.may, allMay_keys h.may⟩)
theorem KidsS.obj {deep n0 i m : Nat} {js : List J} {pl : List (List Nd)} {ks : List ByteArray} (h : KidsS deep n0 i js pl ks m) (hn : n0 ≤ 150) :
    May (J.flat (.mk ⟨7, none_, 0, none_⟩ (rekeys ks js))) (.mk ⟨7, none_, 0, none_⟩ (rekeys ks js)) ∧ ObjT ks pl (J.flat (.mk ⟨7, none_, 0, none_⟩ (rekeys ks js))) 0 ∧ TextsOk (J.flat (.mk ⟨7, none_, 0, none_⟩ (rekeys ks js))) ∧ (J.flat (.mk ⟨7, none_, 0, none_⟩ (rekeys ks js))).length + 2 * m ≤ 1 + 2 * n0 ∧ (J.mk ⟨7, none_, 0, none_⟩ (rekeys ks js)).deep + deep ≤ 8 := by
  have h1 := h.size
  have h2 := h.len
  have h3 := h.deeps
  have hk : ks.length = js.length := h.klen.trans h.may.1
  have hlen : (J.flat (.mk ⟨7, none_, 0, none_⟩ (rekeys ks js))).length = (J.flats js).length + 1 := by rw [flat_mk, List.length_cons, rekeys_flats hk]
  have hdp := rekeys_deeps ks js hk
  have hks : ∀ s ∈ ks, s.size ≤ maxLen := fun s hs => by have := h.key_size s hs; unfold maxLen; omega
  refine ⟨⟨⟨?_, rfl, rfl⟩, by omega, by simp only [J.deep]; omega⟩, .inr ⟨h.klen, .inr ⟨fun j hj => ?_, js, h.may, .inr (.inr ⟨by rw [rekeys_flats hk]; omega, by omega, rfl, rfl⟩)⟩⟩, texts_root (texts_rekeys hks (allMay_texts h.may h.texts)), by omega, by simp only [J.deep]; omega⟩
  · simp only [J.Ok]
    refine .inr (.inr ⟨by trivial, ⟨rfl, rfl⟩, rekeys_oks (allMay_oks h.may), ?_⟩)
    rw [rekeys_keys hk]
    exact keysOk_of h.key_valid h.nodup (by simp)
  · have hjk : j < ks.length := by rw [h.klen]; exact hj
    rw [objErr_chk hjk hj (h.key_valid _ (List.getElem_mem hjk)) (by
      rw [hasKey_not]
      intro hm
      obtain ⟨i, hi, e⟩ := List.mem_take_iff_getElem.1 hm
      have := (List.getElem_inj h.nodup).1 e
      omega)]
    exact allMay_chk h.may j hj
end Go.Proofs.YtkefhhnbkhijgaaDoor
