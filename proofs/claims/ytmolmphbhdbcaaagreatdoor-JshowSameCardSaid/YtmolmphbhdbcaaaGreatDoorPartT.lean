/- slices.Clone of nodes, and tape.Part. -/
import Derived.Test.YtmolmphbhdbcaaaGreatDoorChk
/-! ### slices.Clone of nodes, and tape.Part. -/
namespace Go.Proofs.YtmolmphbhdbcaaaGreatDoor
open Go.RowKit

/-- append of nodes -/
theorem step_push_nodes {o : Oper} {a : Act} {K : Act → World → Prop} {Q : Exit → Act → World → Prop} (w : World) (s x : Operand)
    (ho : o.op = .call { callee := .builtin .append, args := #[s, x], argTypes := #[22, 22] })
    (base : Nat) (v : Value) (r : List Nd) (hs : a.eval s = v) (hown : NodesOwn base w v r)
    (xv : Value) (q : List Nd) (hev : a.eval x = xv) (hx : NodesIs w xv q) (hlen : r.length + q.length ≤ 4194304) (hbase : base ≤ w.heap.size)
    (h : ∀ v' w', NodesOwn base w' v' (r ++ q) → Kept 57 base w w' → K (a.put o.dst v') w') : o.wp Tryz.prog a w K Q := by
  obtain ⟨i0, hi, hz0, hz1, hz2⟩ := info_parts nodeInfo
  refine wp_append_sl w s x 22 ho base 57 i0 _ 5 56 Tryz.underlying22 hi hz0 hz1 hz2 rfl (by omega) v r.length (ndVals r) hs hown
    xv q.length (ndVals q) hev hx (ndVals_length q) (ndVals_cell q) (by unfold maxLen; omega) (by omega) hbase ?_
  intro v' w' own' hg
  refine h v' w' ?_ (Kept.of_grown hown hg hbase)
  unfold NodesOwn
  rw [ndVals_append, List.length_append]
  exact own'

/-- a piece of nodes -/
theorem Sl.piece {w : World} {b o cap : Nat} {t : List Nd} (h : NodesIs w (.slice (some ⟨b, o, none⟩) t.length cap) t) (a n c : Nat) (ha : a + n ≤ t.length) (hc : n ≤ c) (hm : c ≤ maxLen) : NodesIs w (.slice (some ⟨b, o + a * 5, none⟩) n c) ((t.drop a).take n) := by
  obtain ⟨A, cp, he, h1, h2, h3⟩ := h
  injection he with e1 _ _
  have hl : ((t.drop a).take n).length = n := by simp; omega
  refine ⟨_, c, by rw [hl], by rw [hl]; exact hc, hm, fun hne => ⟨b, o + a * 5, rfl, fun j u hu => ?_⟩⟩
  have ht : ndVals t ≠ [] := ndVals_ne (by
    rcases Nat.eq_zero_or_pos n with h | h
    · subst h; simp [ndVals] at hne
    · omega)
  obtain ⟨b', o', e2, h4⟩ := h3 ht
  rw [← e1] at e2
  injection e2 with e2
  injection e2 with e2 e3 _
  subst e2 e3
  rw [Nat.add_assoc]
  refine h4 _ _ ?_
  rw [ndVals_take, ndVals_drop _ _ (by omega), List.getElem?_take] at hu
  split at hu
  · rwa [List.getElem?_drop] at hu
  · cases hu
def Nd.unkey (x : Nd) : Nd := ⟨x.kind, none_, x.n, x.s, x.size⟩
def unkeyL : List Nd → List Nd
  | [] => []
  | x :: r => x.unkey :: r
def J.unkey : J → J
  | .mk h l => .mk ⟨h.kind, none_, h.n, h.s⟩ l
theorem unkey_flat (j : J) : unkeyL j.flat = j.unkey.flat := by
  cases j
  simp [flat_mk, unkeyL, J.unkey, Nd.unkey]
theorem unkey_key (j : J) : j.unkey.key = none_ := by cases j; rfl
theorem unkey_deep (j : J) : j.unkey.deep = j.deep := by cases j; simp [J.unkey, J.deep]
theorem unkey_size (j : J) : j.unkey.flat.length = j.flat.length := by cases j; simp [J.unkey, flat_mk]
theorem unkey_ok {V : ByteArray → Bool} {j : J} (h : J.Ok V j) : J.Ok V j.unkey := by
  cases j with
  | mk h l =>
    simp only [J.unkey, J.Ok, leafOk, plainHd] at *
    exact h
theorem unkey_same {j : J} (h : j.key = none_) : j.unkey = j := by
  cases j with
  | mk hd l =>
    obtain ⟨h1, h2, h3, h4⟩ := hd
    have e : h2 = none_ := h
    rw [J.unkey, e]
/-- each node of a tape is the first of a value -/
theorem sub_both {V : ByteArray → Bool} : (∀ j : J, j.Ok V → ∀ a, a < j.flat.length → ∃ (j' : J) (r : List Nd), j'.Ok V ∧ j.flat.drop a = j'.flat ++ r ∧ j'.deep ≤ j.deep) ∧
    ∀ l : List J, J.Oks V l → ∀ a, a < (J.flats l).length → ∃ (j' : J) (r : List Nd), j'.Ok V ∧ (J.flats l).drop a = j'.flat ++ r ∧ j'.deep ≤ J.deeps l := by
  refine J.both ?_ ?_ ?_
  · intro h l ih hok a ha
    cases a with
    | zero => exact ⟨.mk h l, [], hok, by simp, Nat.le_refl _⟩
    | succ a =>
      have hoks : J.Oks V l := by
        simp only [J.Ok] at hok
        rcases hok with ⟨_, rfl⟩ | ⟨_, _, h, _⟩ | ⟨_, _, h, _⟩
        · simp [J.Oks]
        · exact h
        · exact h
      rw [flat_mk, List.length_cons] at ha
      obtain ⟨j', r, h1, h2, h3⟩ := ih hoks a (by omega)
      exact ⟨j', r, h1, by rw [flat_mk, List.drop_succ_cons, h2], by simp only [J.deep]; omega⟩
  · intro _ a ha
    simp [J.flats] at ha
  · intro j l hj hl hoks a ha
    simp only [J.Oks] at hoks
    rw [flats_cons, List.length_append] at ha
    by_cases hlt : a < j.flat.length
    · obtain ⟨j', r, h1, h2, h3⟩ := hj hoks.1 a hlt
      refine ⟨j', r ++ J.flats l, h1, ?_, by simp only [J.deeps]; omega⟩
      rw [flats_cons, List.drop_append_of_le_length (by omega), h2, List.append_assoc]
    · obtain ⟨j', r, h1, h2, h3⟩ := hl hoks.2 (a - j.flat.length) (by omega)
      refine ⟨j', r, h1, ?_, by simp only [J.deeps]; omega⟩
      obtain ⟨c, hc⟩ : ∃ c, a = j.flat.length + c := ⟨a - j.flat.length, by omega⟩
      subst hc
      rw [Nat.add_sub_cancel_left] at h2
      rw [flats_cons, ← List.drop_drop, List.drop_left' rfl, h2]

theorem SlT.setKey {lo : Nat} {w : World} {v : Value} {x : Nd} {r : List Nd} (h : NodesT lo w v (x :: r)) : ∃ g off cap, v = .slice (some ⟨g, off, none⟩) (r.length + 1) cap ∧ r.length + 1 ≤ cap ∧ cap ≤ maxLen ∧ lo ≤ g ∧ w.cell? ⟨g, off + 1, none⟩ = some (.string x.key) ∧ w.frozen? ⟨g, off + 1, none⟩ = false ∧
    NodesT lo (w.setCell ⟨g, off + 1, none⟩ (.string ⟨#[]⟩)) v (x.unkey :: r) := by
  obtain ⟨A, cap, rfl, h1, h2, h3⟩ := h
  obtain ⟨g, off, cs, rfl, hlo, hh, hc⟩ := h3 (ndVals_ne (by simp))
  have k1 := hc 1 (.string x.key) (by simp [ndVals, Nd.vals])
  have hlt : off + 1 < cs.size := (Array.getElem?_eq_some_iff.1 k1).1
  refine ⟨g, off, cap, rfl, h1, h2, hlo, by rw [cell_of_heap hh]; exact k1, free_of_heap hh, ⟨_, cap, rfl, h1, h2, fun _ => ⟨g, off, cs.setIfInBounds (off + 1) (.string ⟨#[]⟩), rfl, hlo, by simp [World.setCell, Array.getElem?_modify, hh], fun j u hu => ?_⟩⟩⟩
  have e : ndVals (x.unkey :: r) = (ndVals (x :: r)).set 1 (.string ⟨#[]⟩) := by simp [ndVals, Nd.vals, Nd.unkey, none_]
  rw [e, List.getElem?_set] at hu
  by_cases hj : 1 = j
  · subst hj
    simp [ndVals, Nd.vals] at hu
    subst hu
    simp [hlt]
  · rw [if_neg hj] at hu
    rw [Array.getElem?_setIfInBounds_ne (by omega)]
    exact hc j u hu

/-- what Part answers -/
def PartT (t : List Nd) (at_ : Int) (ps : List Nd) : Prop :=
  ((chkT t ≠ 0 ∨ at_ < 0 ∨ (t.length : Int) ≤ at_) ∧ ps = []) ∨ ∃ (j j' : J) (a : Nat) (r : List Nd), May t j ∧ at_ = a ∧ a < t.length ∧ t.drop a = j'.flat ++ r ∧ J.Ok vU j' ∧ j'.deep ≤ j.deep ∧ ps = j'.unkey.flat
theorem PartT_some (t : List Nd) (at_ : Int) : ∃ ps, PartT t at_ ps := by
  by_cases h : chkT t = 0 ∧ 0 ≤ at_ ∧ at_ < t.length
  · obtain ⟨j, hj⟩ := may_of h.1
    obtain ⟨a, rfl⟩ : ∃ a : Nat, at_ = a := ⟨at_.toNat, by omega⟩
    have ha : a < t.length := by omega
    have ht := hj.1.2.2
    obtain ⟨j', r, h1, h2, h3⟩ := sub_both.1 j hj.1.1 a (by rw [← ht]; exact ha)
    exact ⟨_, .inr ⟨j, j', a, r, hj, rfl, ha, by rw [ht, h2], h1, h3, rfl⟩⟩
  · exact ⟨[], .inl ⟨by omega, rfl⟩⟩

end Go.Proofs.YtmolmphbhdbcaaaGreatDoor

/-! ### tape.Get. -/
namespace Go.Proofs.YtmolmphbhdbcaaaGreatDoor
open Go.RowKit

/-- the member of a key -/
def member (l : List J) (key : ByteArray) : Option J := l.find? fun j => decide (j.key = key)
/-- what Get answers -/
def GetT (t : List Nd) (key : ByteArray) (ps : List Nd) (is : Bool) : Prop :=
  ((chkT t ≠ 0 ∨ ∃ h l, May t (.mk h l) ∧ h.kind ≠ 7) ∧ ps = [] ∧ is = false) ∨ ∃ h l, May t (.mk h l) ∧ h.kind = 7 ∧ ((member l key = none ∧ ps = [] ∧ is = false) ∨ ∃ j, member l key = some j ∧ ps = j.unkey.flat ∧ is = true)
theorem GetT_some (t : List Nd) (key : ByteArray) : ∃ ps is, GetT t key ps is := by
  by_cases h : chkT t = 0
  · obtain ⟨⟨hd, l⟩, hj⟩ := may_of h
    by_cases hk : hd.kind = 7
    · cases hm : member l key with
      | none => exact ⟨_, _, .inr ⟨hd, l, hj, hk, .inl ⟨hm, rfl, rfl⟩⟩⟩
      | some j => exact ⟨_, _, .inr ⟨hd, l, hj, hk, .inr ⟨j, hm, rfl, rfl⟩⟩⟩
    · exact ⟨_, _, .inl ⟨.inr ⟨hd, l, hj, hk⟩, rfl, rfl⟩⟩
  · exact ⟨_, _, .inl ⟨.inl h, rfl, rfl⟩⟩
theorem member_none {l1 : List J} {key : ByteArray} (h : ∀ j ∈ l1, j.key ≠ key) (l2 : List J) : member (l1 ++ l2) key = member l2 key := by
  unfold member
  rw [List.find?_append, List.find?_eq_none.2 (by simpa using h)]
  rfl
theorem member_here {j : J} {l : List J} {key : ByteArray} (h : j.key = key) : member (j :: l) key = some j := by simp [member, h]
/-- new nodes, and whether there are some -/
def NewNodesB (w0 : World) (l : List Nd) (b : Bool) (e : Ending) (w' : World) : Prop := ∃ v, e = .returned (.tuple #[v, .bool b]) ∧ NodesT w0.heap.size w' v l ∧ Old w0 w'
theorem ints_cell {w : World} {v : Value} {l : List Nat} {lo m : Nat} (h : IntsT lo w v l) (hm : l.length = m) : ∃ A cap, v = .slice A m cap ∧ m ≤ cap ∧ cap ≤ maxLen ∧ (m = 0 ∨ ∃ b off, A = some ⟨b, off, none⟩ ∧ ∀ (i n : Nat), l[i]? = some n → w.cell? ⟨b, off + i, none⟩ = some (.int .i64 (n : Int))) := by
  subst hm
  obtain ⟨A, cap, rfl, h1, h2, h3⟩ := h.sl
  refine ⟨A, cap, rfl, h1, h2, ?_⟩
  cases l with
  | nil => exact .inl rfl
  | cons x l =>
    obtain ⟨b, off, rfl, hc⟩ := h3 (by simp [intVals])
    exact .inr ⟨b, off, rfl, fun i n hn => hc i _ (by simp only [intVals, List.getElem?_map, hn, Option.map_some])⟩
theorem starts_at {a : Nat} {l1 l2 : List J} {j : J} : (starts a (l1 ++ j :: l2))[l1.length]? = some (a + (J.flats l1).length) := by
  rw [starts_append, List.getElem?_append_right (by rw [starts_length]; exact Nat.le_refl _), starts_length, Nat.sub_self]
  rfl
theorem kids_ok {V : ByteArray → Bool} {h : Hd} {l : List J} (hok : J.Ok V (.mk h l)) : J.Oks V l := by
  simp only [J.Ok] at hok
  rcases hok with ⟨_, rfl⟩ | ⟨_, _, h, _⟩ | ⟨_, _, h, _⟩
  · simp [J.Oks]
  · exact h
  · exact h
theorem part_kid {t : List Nd} {h : Hd} {l1 l2 : List J} {j : J} (hm : May t (.mk h (l1 ++ j :: l2))) : PartT t ((0 + 1 + (J.flats l1).length : Nat) : Int) j.unkey.flat := by
  have hd : t.drop 0 = J.flat (.mk h (l1 ++ j :: l2)) ++ [] := by rw [List.drop_zero, List.append_nil]; exact hm.1.2.2
  have hd2 := drop_flat hd
  rw [flats_cons, List.append_assoc] at hd2
  obtain ⟨ha, _⟩ := head_flat hd2
  have hok := oks_mem (kids_ok hm.1.1) j (by simp)
  refine .inr ⟨_, j, _, _, hm, rfl, ha, hd2, hok, ?_, rfl⟩
  have := deep_le_deeps (l := l1 ++ j :: l2) (j := j) (by simp)
  simp only [J.deep]
  omega

end Go.Proofs.YtmolmphbhdbcaaaGreatDoor
