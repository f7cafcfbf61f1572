/- What is sorted: plain laws. -/
import Derived.Test.YtmolmphbhdbcaaaGreatDoorSeeds
import Derived.Test.YtmolmphbhdbcaaaGreatDoorSameT
namespace Go.Proofs.YtmolmphbhdbcaaaGreatDoor
open Go.RowKit

theorem deeps_perm {l l' : List J} (h : l.Perm l') : J.deeps l = J.deeps l' := by
  induction h with
  | nil => rfl
  | cons x _ ih => simp only [J.deeps, ih]
  | swap x y l => simp only [J.deeps]; omega
  | trans _ _ h1 h2 => exact h1.trans h2
theorem apt_sorts {l : List J} (h : AptJ l) : AptJ (J.sorts l) := by
  rw [sorts_map]
  exact List.pairwise_map.2 (h.imp fun {a b} hab => by rw [sort_key, sort_key]; exact hab)
theorem SameT.known {a b : List Nd} {ja jb : J} {B : Bool} (h : SameT a b B) (ha : May a ja) (hb : May b jb) : B = sameNds ja.sort.flat jb.sort.flat := by
  rcases h with ⟨h0, _⟩ | ⟨ja', jb', ha', hb', rfl⟩
  · rcases h0 with h0 | h0
    · exact absurd (chkT_may ha) h0
    · exact absurd (chkT_may hb) h0
  · rw [flat_inj (ha.1.2.2.symm.trans ha'.1.2.2), flat_inj (hb.1.2.2.symm.trans hb'.1.2.2)]
mutual
/-- at every depth, the members of an object rise by their keys -/
def J.Srt : J → Prop
  | .mk h l => (h.kind = 7 → UpJ l) ∧ J.Srts l
def J.Srts : List J → Prop
  | [] => True
  | j :: l => J.Srt j ∧ J.Srts l
end
theorem srts_mem {l : List J} : J.Srts l ↔ ∀ j ∈ l, J.Srt j := by
  induction l with
  | nil => simp [J.Srts]
  | cons j l ih => simp [J.Srts, ih]
theorem up_apt {l : List J} (h : UpJ l) : AptJ l :=
  List.Pairwise.imp (S := fun a b : J => a.key ≠ b.key) (fun {a b} (hab : keyLt a.key b.key) (e : a.key = b.key) => keyLt_irrefl b.key (by rw [e] at hab; exact hab)) h
theorem ord_same {l : List J} (h : UpJ l) : ordJ l = l := up_unique (ordJ_perm l) (ordJ_up (up_apt h)) h
theorem sort_srt : (∀ j : J, j.Srt → j.sort = j) ∧ ∀ l : List J, J.Srts l → J.sorts l = l := by
  refine J.both ?_ ?_ ?_
  · intro h l ih hs
    obtain ⟨h1, h2⟩ := hs
    rw [J.sort, ih h2]
    split
    · rw [ord_same (h1 (by assumption))]
    · rfl
  · intro _; rfl
  · intro j l h1 h2 hs
    obtain ⟨h3, h4⟩ := hs
    rw [J.sorts, h1 h3, h2 h4]
theorem ok_apt {V : ByteArray → Bool} {h : Hd} {l : List J} (hok : J.Ok V (.mk h l)) (h7 : h.kind = 7) : AptJ l := (apt_of_keys V l [] (ok_keys (j := .mk h l) hok h7)).1
theorem ok_oks {V : ByteArray → Bool} {h : Hd} {l : List J} (hok : J.Ok V (.mk h l)) : J.Oks V l := oks_of (kid_ok hok)
theorem srt_sort {V : ByteArray → Bool} : (∀ j : J, j.Ok V → j.sort.Srt) ∧ ∀ l : List J, J.Oks V l → J.Srts (J.sorts l) := by
  refine J.both ?_ ?_ ?_
  · intro h l ih hok
    have hs := ih (ok_oks hok)
    rw [J.sort, J.Srt]
    by_cases h7 : h.kind = 7
    · rw [if_pos h7]
      exact ⟨fun _ => ordJ_up (apt_sorts (ok_apt hok h7)), srts_mem.2 fun j hj => srts_mem.1 hs j ((ordJ_perm _).mem_iff.1 hj)⟩
    · rw [if_neg h7]
      exact ⟨fun h => absurd h h7, hs⟩
  · intro _; simp [J.sorts, J.Srts]
  · intro j l h1 h2 hok
    simp only [J.Oks] at hok
    simp only [J.sorts, J.Srts]
    exact ⟨h1 hok.1, h2 hok.2⟩
theorem sort_deep : (∀ j : J, j.sort.deep = j.deep) ∧ ∀ l : List J, J.deeps (J.sorts l) = J.deeps l := by
  refine J.both ?_ ?_ ?_
  · intro h l ih
    rw [J.sort, J.deep, J.deep]
    split
    · rw [deeps_perm (ordJ_perm _), ih]
    · rw [ih]
  · rfl
  · intro j l h1 h2; simp only [J.sorts, J.deeps, h1, h2]
theorem keys_valid {V : ByteArray → Bool} : ∀ {ks had : List ByteArray}, keysOk V had ks → ∀ s ∈ ks, V s = true
  | [], _, _, _, hs => absurd hs (by simp)
  | k :: ks, had, h, s, hs => by
    obtain ⟨h1, _, h3⟩ := h
    rcases List.mem_cons.1 hs with rfl | hs
    · exact h1
    · exact keys_valid h3 s hs
theorem sort_ok {V : ByteArray → Bool} : (∀ j : J, j.Ok V → j.sort.Ok V) ∧ ∀ l : List J, J.Oks V l → J.Oks V (J.sorts l) := by
  refine J.both ?_ ?_ ?_
  · intro h l ih hok
    have hs := ih (ok_oks hok)
    have hk := hok
    rw [J.Ok] at hok
    rw [J.sort, J.Ok]
    rcases hok with ⟨h1, rfl⟩ | ⟨h1, h2, h3, h4⟩ | ⟨h1, h2, h3, h4⟩
    · refine .inl ⟨h1, ?_⟩
      split <;> simp [J.sorts, ordJ]
    · refine .inr (.inl ⟨h1, h2, ?_⟩)
      rw [if_neg (by omega)]
      refine ⟨hs, fun j hj => ?_⟩
      rw [sorts_map] at hj
      obtain ⟨x, hx, rfl⟩ := List.mem_map.1 hj
      rw [sort_key]
      exact h4 x hx
    · refine .inr (.inr ⟨h1, h2, ?_⟩)
      rw [if_pos h1]
      have hp : ((ordJ (J.sorts l)).map J.key).Perm (l.map J.key) := by
        refine ((ordJ_perm _).map J.key).trans ?_
        rw [sorts_map, List.map_map]
        have e : J.key ∘ J.sort = J.key := by funext x; exact sort_key x
        rw [e]
      refine ⟨oks_of fun j hj => oks_mem hs j ((ordJ_perm _).mem_iff.1 hj), keysOk_of (fun s h => keys_valid h4 s (hp.mem_iff.1 h)) (hp.nodup_iff.2 ?_) (by simp)⟩
      exact List.pairwise_map.2 (ok_apt hk h1)
  · intro _; simp [J.sorts, J.Oks]
  · intro j l h1 h2 hok
    simp only [J.Oks] at hok
    simp only [J.sorts, J.Oks]
    exact ⟨h1 hok.1, h2 hok.2⟩
theorem May.sorted {t : List Nd} {j : J} (h : May t j) : May j.sort.flat j.sort := by
  refine ⟨⟨sort_ok.1 j h.1.1, ?_, rfl⟩, ?_, ?_⟩
  · rw [sort_key]; exact h.1.2.1
  · rw [sort_len.1, ← h.1.2.2]; exact h.2.1
  · rw [sort_deep.1]; exact h.2.2
end Go.Proofs.YtmolmphbhdbcaaaGreatDoor
