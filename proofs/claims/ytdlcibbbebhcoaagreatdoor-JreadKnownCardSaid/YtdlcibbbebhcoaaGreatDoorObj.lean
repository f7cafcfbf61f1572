/- tape.List. -/
import Derived.Test.YtdlcibbbebhcoaaGreatDoorChk
/-! ### tape.List. -/
namespace Go.Proofs.YtdlcibbbebhcoaaGreatDoor
open Go.RowKit

/-- all parts may be: these values -/
def AllMay (pl : List (List Nd)) (js : List J) : Prop := pl.length = js.length ∧ ∀ i, (h : i < pl.length) → (h' : i < js.length) → May pl[i] js[i]
theorem allMay_of : ∀ {pl : List (List Nd)}, (∀ i : Nat, (h : i < pl.length) → chkT pl[i] = 0) → ∃ js, AllMay pl js
  | [], _ => ⟨[], rfl, fun i h => absurd h (by simp)⟩
  | p :: pl, h => by
    obtain ⟨j, hj⟩ := may_of (show chkT p = 0 from h 0 (by simp))
    obtain ⟨js, h1, h2⟩ := allMay_of (pl := pl) (fun i hi => by have := h (i + 1) (by simpa using hi); simpa using this)
    refine ⟨j :: js, by simp [h1], fun i hi hi' => ?_⟩
    cases i with
    | zero => exact hj
    | succ i => exact h2 i (by simpa using hi) (by simpa using hi')
theorem allMay_chk {pl : List (List Nd)} {js : List J} (h : AllMay pl js) : ∀ i : Nat, (hi : i < pl.length) → chkT pl[i] = 0 := fun i hi => chkT_may (h.2 i hi (by have := h.1; omega))
theorem rekey_same {j : J} (h : j.key = none_) : j.rekey none_ = j := by
  cases j with
  | mk hd l =>
    obtain ⟨h1, h2, h3, h4⟩ := hd
    have e : h2 = none_ := h
    rw [J.rekey, e]
theorem rekeys_none : ∀ {js : List J}, (∀ j ∈ js, j.key = none_) → rekeys (List.replicate js.length none_) js = js
  | [], _ => rfl
  | j :: js, h => by
    rw [List.length_cons, List.replicate_succ, rekeys, rekey_same (h j (by simp)), rekeys_none fun x hx => h x (by simp [hx])]
theorem allMay_keys {pl : List (List Nd)} {js : List J} (h : AllMay pl js) : ∀ j ∈ js, j.key = none_ := by
  intro j hj
  obtain ⟨i, hi, rfl⟩ := List.getElem_of_mem hj
  exact (h.2 i (by have := h.1; omega) hi).1.2.1
/-- what List answers -/
def ListT (pl : List (List Nd)) (out : List Nd) (e : Int) : Prop :=
  (∃ i : Nat, ∃ h : i < pl.length, (∀ j : Nat, (hj : j < pl.length) → j < i → chkT pl[j] = 0) ∧ chkT pl[i] ≠ 0 ∧ e = chkT pl[i] ∧ out = []) ∨ ∃ js, AllMay pl js ∧ WholeT 6 js out e

end Go.Proofs.YtdlcibbbebhcoaaGreatDoor

/-! ### tape.Obj. -/
namespace Go.Proofs.YtdlcibbbebhcoaaGreatDoor
open Go.RowKit

/-- what is wrong with a member -/
def objErr (ks : List ByteArray) (pl : List (List Nd)) (i : Nat) : Int :=
  if vU (ks.getD i none_) = false then 40 else if hasKey (ks.take i) (ks.getD i none_) = true then 71 else chkT (pl.getD i [])
def ObjT (ks : List ByteArray) (pl : List (List Nd)) (out : List Nd) (e : Int) : Prop :=
  (ks.length ≠ pl.length ∧ out = [] ∧ e = 2) ∨ (ks.length = pl.length ∧
    ((∃ i, i < pl.length ∧ (∀ j, j < i → objErr ks pl j = 0) ∧ objErr ks pl i ≠ 0 ∧ e = objErr ks pl i ∧ out = []) ∨ ((∀ j, j < pl.length → objErr ks pl j = 0) ∧ ∃ js, AllMay pl js ∧ WholeT 7 (rekeys ks js) out e)))
theorem getD_at {α : Type} {l : List α} {i : Nat} (h : i < l.length) (d : α) : l.getD i d = l[i] := by simp [List.getD, List.getElem?_eq_getElem h]
theorem objErr_40 {ks : List ByteArray} {pl : List (List Nd)} {i : Nat} (h : i < ks.length) (hv : vU ks[i] = false) : objErr ks pl i = 40 := by
  unfold objErr
  rw [getD_at h, if_pos hv]
theorem objErr_71 {ks : List ByteArray} {pl : List (List Nd)} {i : Nat} (h : i < ks.length) (hv : vU ks[i] = true) (hh : hasKey (ks.take i) ks[i] = true) : objErr ks pl i = 71 := by
  unfold objErr
  rw [getD_at h, if_neg (by rw [hv]; decide), if_pos hh]
theorem objErr_chk {ks : List ByteArray} {pl : List (List Nd)} {i : Nat} (h : i < ks.length) (h' : i < pl.length) (hv : vU ks[i] = true) (hh : hasKey (ks.take i) ks[i] = false) : objErr ks pl i = chkT pl[i] := by
  unfold objErr
  rw [getD_at h, getD_at h', if_neg (by rw [hv]; decide), if_neg (by rw [hh]; decide)]
theorem obj_first {ks : List ByteArray} {pl : List (List Nd)} {out : List Nd} {e c : Int} {k : Nat} (h : ObjT ks pl out e) (hl : ks.length = pl.length) (hk : k < pl.length) (hq : ∀ j, j < k → objErr ks pl j = 0) (hc : objErr ks pl k = c) (h0 : c ≠ 0) : out = [] ∧ e = c := by
  rcases h with ⟨h, _⟩ | ⟨_, ⟨i, hi, h1, h2, h3, h4⟩ | ⟨h1, _⟩⟩
  · exact absurd hl h
  · have : i = k := by
      rcases Nat.lt_trichotomy i k with h | h | h
      · exact absurd (hq i h) h2
      · exact h
      · exact absurd (hc.symm.trans (h1 k h)) h0
    subst this
    exact ⟨h4, h3.trans hc⟩
  · exact absurd (hc.symm.trans (h1 k hk)) h0

end Go.Proofs.YtdlcibbbebhcoaaGreatDoor

/-! ### Rows of texts, and of rows of nodes, that a call grows. -/
namespace Go.Proofs.YtdlcibbbebhcoaaGreatDoor
open Go.RowKit

def PartsOwn (base : Nat) (w : World) (v : Value) (ps : List (List Nd)) : Prop :=
  ∃ vs : List Value, vs.length = ps.length ∧ w.ownsRow base 25 1 v ps.length vs ∧ ∀ i, (h : i < ps.length) → (h' : i < vs.length) → NodesT base w vs[i] ps[i]
abbrev TextsOwn (base : Nat) (w : World) (v : Value) (l : List ByteArray) : Prop := w.ownsRow base 9 1 v l.length (l.map Value.string)
theorem PartsOwn.old {base : Nat} {w w' : World} {v : Value} {ps : List (List Nd)} (h : PartsOwn base w v ps) (k : Old w w') : PartsOwn base w' v ps := by
  obtain ⟨vs, h1, h2, h3⟩ := h
  exact ⟨vs, h1, own_old h2 k, fun i hi hi' => (h3 i hi hi').old k⟩
theorem PartsOwn.is {base : Nat} {w : World} {v : Value} {ps : List (List Nd)} (h : PartsOwn base w v ps) : PartsIs w v ps := by
  obtain ⟨vs, h1, h2, h3⟩ := h
  exact ⟨vs, h1, (SlT.of_own h2).sl, fun i hi hi' => (h3 i hi hi').sl⟩
theorem own_nil (base T size : Nat) (w : World) : w.ownsRow base T size (.slice none 0 0) 0 [] := ⟨by simp, .inl ⟨rfl, rfl⟩⟩
theorem PartsOwn.nil_ (base : Nat) (w : World) : PartsOwn base w (.slice none 0 0) [] := ⟨[], rfl, own_nil _ _ _ _, fun i hi => absurd hi (by simp)⟩
theorem TextsOwn.is {base : Nat} {w : World} {v : Value} {l : List ByteArray} (h : TextsOwn base w v l) : TextsIs w v l := (SlT.of_own h).sl
theorem Kept.own {T T' base base' size n : Nat} {w w' : World} {v : Value} {xs : List Value} (k : Kept T base w w') (h : w.ownsRow base' T' size v n xs) (hne : T' ≠ T) : w'.ownsRow base' T' size v n xs := by
  obtain ⟨hl, h2⟩ := h
  refine ⟨hl, ?_⟩
  rcases h2 with h2 | ⟨g, cap, cur, rfl, hb, hh, r⟩
  · exact .inl h2
  · exact .inr ⟨g, cap, cur, rfl, hb, k.other _ _ _ _ hh hne, r⟩
theorem PartsOwn.kept {T base base' : Nat} {w w' : World} {v : Value} {ps : List (List Nd)} (h : PartsOwn base' w v ps) (k : Kept T base w w') (h1 : 25 ≠ T) (h2 : 33 ≠ T) : PartsOwn base' w' v ps := by
  obtain ⟨vs, g1, g2, g3⟩ := h
  exact ⟨vs, g1, k.own g2 h1, fun i hi hi' => k.slT (g3 i hi hi') h2⟩
theorem partInfo : (Tryz.prog.info? 25).map (fun i => (i.zero, i.size, i.bytes)) = some (some (.slice none 0 0), 1, 24) := by kernel_rfl
theorem textInfo : (Tryz.prog.info? 9).map (fun i => (i.zero, i.size, i.bytes)) = some (some (.string ⟨#[]⟩), 1, 16) := by kernel_rfl
theorem step_push_text {o : Oper} {a : Act} {K : Act → World → Prop} {Q : Exit → Act → World → Prop} (w : World) (s x : Operand)
    (ho : o.op = .call { callee := .builtin .append, args := #[s, x], argTypes := #[22, 22] })
    (base : Nat) (v : Value) (l : List ByteArray) (hs : a.eval s = v) (hown : TextsOwn base w v l) (g cap : Nat) (k : ByteArray) (hx : a.eval x = .slice (some ⟨g, 0, none⟩) 1 cap) (h0 : w.cell? ⟨g, 0, none⟩ = some (.string k))
    (hlen : l.length + 1 ≤ 4194304) (hbase : base ≤ w.heap.size)
    (h : ∀ v' w', TextsOwn base w' v' (l ++ [k]) → Kept 9 base w w' → K (a.put o.dst v') w') : o.wp Tryz.prog a w K Q := by
  obtain ⟨i0, hi, hz0, hz1, hz2⟩ := info_parts textInfo
  refine wp_append_own w s x 22 ho base 9 i0 (.string ⟨#[]⟩) 1 16 Tryz.underlying22 hi hz0 hz1 hz2 rfl (by omega) v l.length (l.map Value.string) hs hown ⟨g, 0, none⟩ 1 cap [.string k] hx rfl ?_ ?_ (by unfold maxLen; omega) (by omega) hbase ?_
  · intro j u hu
    match j, hu with
    | 0, hu => simp at hu; subst hu; exact h0
    | j + 1, hu => simp at hu
  · intro u hu
    simp at hu
    subst hu
    rfl
  · intro v' w' own' hg _
    refine h v' w' ?_ (Kept.of_grown hown hg hbase)
    unfold TextsOwn
    rw [List.length_append, List.map_append]
    exact own'
end Go.Proofs.YtdlcibbbebhcoaaGreatDoor
