/- What is sorted: plain laws. -/
import Derived.Test.YtkefhhnbkhijgaaDoorOrderL
import Derived.Test.YtkefhhnbkhijgaaDoorAgainL
namespace Go.Proofs.YtkefhhnbkhijgaaDoor
open Go.RowKit

mutual
/-- at every depth, the members of an object rise by their keys -/
def J.Srt : J → Prop
  | .mk h l => (h.kind = 7 → UpJ l) ∧ J.Srts l
def J.Srts : List J → Prop
  | [] => True
  | j :: l => J.Srt j ∧ J.Srts l
end
theorem srts_mem {l : List J} : J.Srts l ↔ ∀ j ∈ l, J.Srt j := by
  induction l with
  | nil => simp [J.Srts]
  | cons j l ih => simp [J.Srts, ih]
theorem up_apt {l : List J} (h : UpJ l) : AptJ l :=
  List.Pairwise.imp (S := fun a b : J => a.key ≠ b.key) (fun {a b} (hab : keyLt a.key b.key) (e : a.key = b.key) => keyLt_irrefl b.key (by rw [e] at hab; exact hab)) h
theorem ord_same {l : List J} (h : UpJ l) : ordJ l = l := up_unique (ordJ_perm l) (ordJ_up (up_apt h)) h
theorem sort_srt : (∀ j : J, j.Srt → j.sort = j) ∧ ∀ l : List J, J.Srts l → J.sorts l = l := by
  refine J.both ?_ ?_ ?_
  · intro h l ih hs
    obtain ⟨h1, h2⟩ := hs
    rw [J.sort, ih h2]
    split
    · rw [ord_same (h1 (by assumption))]
    · rfl
  · intro _; rfl
  · intro j l h1 h2 hs
    obtain ⟨h3, h4⟩ := hs
    rw [J.sorts, h1 h3, h2 h4]
theorem ok_apt {V : ByteArray → Bool} {h : Hd} {l : List J} (hok : J.Ok V (.mk h l)) (h7 : h.kind = 7) : AptJ l := (apt_of_keys V l [] (ok_keys (j := .mk h l) hok h7)).1
theorem ok_oks {V : ByteArray → Bool} {h : Hd} {l : List J} (hok : J.Ok V (.mk h l)) : J.Oks V l := oks_of (kid_ok hok)
theorem srt_sort {V : ByteArray → Bool} : (∀ j : J, j.Ok V → j.sort.Srt) ∧ ∀ l : List J, J.Oks V l → J.Srts (J.sorts l) := by
  refine J.both ?_ ?_ ?_
  · intro h l ih hok
    have hs := ih (ok_oks hok)
    rw [J.sort, J.Srt]
    by_cases h7 : h.kind = 7
    · rw [if_pos h7]
      exact ⟨fun _ => ordJ_up (apt_sorts (ok_apt hok h7)), srts_mem.2 fun j hj => srts_mem.1 hs j ((ordJ_perm _).mem_iff.1 hj)⟩
    · rw [if_neg h7]
      exact ⟨fun h => absurd h h7, hs⟩
  · intro _; simp [J.sorts, J.Srts]
  · intro j l h1 h2 hok
    simp only [J.Oks] at hok
    simp only [J.sorts, J.Srts]
    exact ⟨h1 hok.1, h2 hok.2⟩
theorem sort_deep : (∀ j : J, j.sort.deep = j.deep) ∧ ∀ l : List J, J.deeps (J.sorts l) = J.deeps l := by
  refine J.both ?_ ?_ ?_
  · intro h l ih
    rw [J.sort, J.deep, J.deep]
    split
    · rw [deeps_perm (ordJ_perm _), ih]
    · rw [ih]
  · rfl
  · intro j l h1 h2; simp only [J.sorts, J.deeps, h1, h2]
theorem keys_valid {V : ByteArray → Bool} : ∀ {ks had : List ByteArray}, keysOk V had ks → ∀ s ∈ ks, V s = true
  | [], _, _, _, hs => absurd hs (by simp)
  | k :: ks, had, h, s, hs => by
    obtain ⟨h1, _, h3⟩ := h
    rcases List.mem_cons.1 hs with rfl | hs
    · exact h1
    · exact keys_valid h3 s hs
theorem sort_ok {V : ByteArray → Bool} : (∀ j : J, j.Ok V → j.sort.Ok V) ∧ ∀ l : List J, J.Oks V l → J.Oks V (J.sorts l) := by
  refine J.both ?_ ?_ ?_
  · intro h l ih hok
    have hs := ih (ok_oks hok)
    have hk := hok
    rw [J.Ok] at hok
    rw [J.sort, J.Ok]
    rcases hok with ⟨h1, rfl⟩ | ⟨h1, h2, h3, h4⟩ | ⟨h1, h2, h3, h4⟩
    · refine .inl ⟨h1, ?_⟩
      split <;> simp [J.sorts, ordJ]
    · refine .inr (.inl ⟨h1, h2, ?_⟩)
      rw [if_neg (by omega)]
      refine ⟨hs, fun j hj => ?_⟩
      rw [sorts_map] at hj
      obtain ⟨x, hx, rfl⟩ := List.mem_map.1 hj
      rw [sort_key]
      exact h4 x hx
    · refine .inr (.inr ⟨h1, h2, ?_⟩)
      rw [if_pos h1]
      have hp : ((ordJ (J.sorts l)).map J.key).Perm (l.map J.key) := by
        refine ((ordJ_perm _).map J.key).trans ?_
        rw [sorts_map, List.map_map]
        have e : J.key ∘ J.sort = J.key := by funext x; exact sort_key x
        rw [e]
      refine ⟨oks_of fun j hj => oks_mem hs j ((ordJ_perm _).mem_iff.1 hj), keysOk_of (fun s h => keys_valid h4 s (hp.mem_iff.1 h)) (hp.nodup_iff.2 ?_) (by simp)⟩
      exact List.pairwise_map.2 (ok_apt hk h1)
  · intro _; simp [J.sorts, J.Oks]
  · intro j l h1 h2 hok
    simp only [J.Oks] at hok
    simp only [J.sorts, J.Oks]
    exact ⟨h1 hok.1, h2 hok.2⟩
theorem texts_mem {l : List J} (h : TextsOk (J.flats l)) : ∀ j ∈ l, TextsOk j.flat := by
  intro j hj x hx
  obtain ⟨l1, l2, rfl⟩ := List.append_of_mem hj
  refine h x ?_
  rw [flats_append, flats_cons]
  simp [hx]
theorem texts_sort : (∀ j : J, TextsOk j.flat → TextsOk j.sort.flat) ∧ ∀ l : List J, TextsOk (J.flats l) → TextsOk (J.flats (J.sorts l)) := by
  refine J.both ?_ ?_ ?_
  · intro h l ih ht
    rw [flat_mk] at ht
    have h1 := ih fun x hx => ht x (by simp [hx])
    have h2 := ht ⟨h.kind, h.key, h.n, h.s, (J.flats l).length + 1⟩ (by simp)
    intro x hx
    rw [J.sort, flat_mk, List.mem_cons] at hx
    rcases hx with rfl | hx
    · exact h2
    · refine texts_flats (fun j hj => ?_) x hx
      have hj' : j ∈ J.sorts l := by
        split at hj
        · exact (ordJ_perm _).mem_iff.1 hj
        · exact hj
      exact texts_mem h1 j hj'
  · intro _ x hx; simp [J.sorts, J.flats] at hx
  · intro j l h1 h2 ht
    rw [flats_cons] at ht
    rw [J.sorts]
    intro x hx
    rw [flats_cons, List.mem_append] at hx
    rcases hx with hx | hx
    · exact h1 (fun y hy => ht y (by simp [hy])) x hx
    · exact h2 (fun y hy => ht y (by simp [hy])) x hx
theorem May.sorted {t : List Nd} {j : J} (h : May t j) : May j.sort.flat j.sort := by
  refine ⟨⟨sort_ok.1 j h.1.1, ?_, rfl⟩, ?_, ?_⟩
  · rw [sort_key]; exact h.1.2.1
  · rw [sort_len.1, ← h.1.2.2]; exact h.2.1
  · rw [sort_deep.1]; exact h.2.2
/-- each node of what is sorted is the first of a value that is sorted -/
theorem sub_srt {V : ByteArray → Bool} : (∀ j : J, j.Ok V → j.Srt → ∀ a, a < j.flat.length → ∃ (j' : J) (r : List Nd), j'.Ok V ∧ j'.Srt ∧ j.flat.drop a = j'.flat ++ r ∧ j'.deep ≤ j.deep) ∧
    ∀ l : List J, J.Oks V l → J.Srts l → ∀ a, a < (J.flats l).length → ∃ (j' : J) (r : List Nd), j'.Ok V ∧ j'.Srt ∧ (J.flats l).drop a = j'.flat ++ r ∧ j'.deep ≤ J.deeps l := by
  refine J.both ?_ ?_ ?_
  · intro h l ih hok hs a ha
    cases a with
    | zero => exact ⟨.mk h l, [], hok, hs, by simp, Nat.le_refl _⟩
    | succ a =>
      rw [flat_mk, List.length_cons] at ha
      obtain ⟨j', r, h1, h1', h2, h3⟩ := ih (ok_oks hok) hs.2 a (by omega)
      exact ⟨j', r, h1, h1', by rw [flat_mk, List.drop_succ_cons, h2], by simp only [J.deep]; omega⟩
  · intro _ _ a ha
    simp [J.flats] at ha
  · intro j l hj hl hoks hs a ha
    simp only [J.Oks] at hoks
    rw [flats_cons, List.length_append] at ha
    by_cases hlt : a < j.flat.length
    · obtain ⟨j', r, h1, h1', h2, h3⟩ := hj hoks.1 hs.1 a hlt
      refine ⟨j', r ++ J.flats l, h1, h1', ?_, by simp only [J.deeps]; omega⟩
      rw [flats_cons, List.drop_append_of_le_length (by omega), h2, List.append_assoc]
    · obtain ⟨j', r, h1, h1', h2, h3⟩ := hl hoks.2 hs.2 (a - j.flat.length) (by omega)
      refine ⟨j', r, h1, h1', ?_, by simp only [J.deeps]; omega⟩
      obtain ⟨c, hc⟩ : ∃ c, a = j.flat.length + c := ⟨a - j.flat.length, by omega⟩
      subst hc
      rw [Nat.add_sub_cancel_left] at h2
      rw [flats_cons, ← List.drop_drop, List.drop_left' rfl, h2]
theorem unkey_kids (j : J) : j.unkey.kids = j.kids := by cases j; rfl
theorem unkey_srt {j : J} (h : j.Srt) : j.unkey.Srt := by
  cases j with
  | mk hd l => exact h
end Go.Proofs.YtkefhhnbkhijgaaDoor
