/- tape.Check and tape.Deep. -/
import Derived.Test.YtdlcibbbebhcoaaGreatDoorLook
import Derived.Deep.RegionHeld3
/-! ### tape.Check and tape.Deep. -/
/-! ### tape.Check and tape.Deep. -/
namespace Go.Proofs.YtdlcibbbebhcoaaGreatDoor
open Go.RowKit

def chkT (t : List Nd) : Int := if 4000 < t.length then 5 else match lookOf vU t with
  | none => 60
  | some d => if 64 < d then 72 else 0
def deepT (t : List Nd) : Nat := if chkT t = 0 then (lookOf vU t).getD 0 else 0
/-- what may be -/
def May (t : List Nd) (j : J) : Prop := Tape vU j t ∧ t.length ≤ 4000 ∧ j.deep ≤ 64
theorem chkT_may {t : List Nd} {j : J} (h : May t j) : chkT t = 0 := by
  unfold chkT
  rw [if_neg (by have := h.2.1; omega), look_yes h.1]
  simp only
  rw [if_neg (by have := h.2.2; omega)]
theorem deepT_may {t : List Nd} {j : J} (h : May t j) : deepT t = j.deep := by
  unfold deepT
  rw [if_pos (chkT_may h), look_yes h.1]
  rfl
theorem may_of {t : List Nd} (h : chkT t = 0) : ∃ j, May t j := by
  unfold chkT at h
  split at h
  · omega
  · split at h
    · omega
    · rename_i d e
      split at h
      · omega
      · obtain ⟨j, hj⟩ := look_no e
        refine ⟨j, hj, by omega, ?_⟩
        rw [look_yes hj] at e
        injection e with e
        omega
theorem Sl.form {w : World} {v : Value} {n : Nat} {xs : List Value} (h : Sl w v n xs) : ∃ A cap, v = .slice A n cap ∧ n ≤ cap ∧ cap ≤ maxLen := by
  obtain ⟨A, cap, rfl, h1, h2, _⟩ := h
  exact ⟨A, cap, rfl, h1, h2⟩

theorem num_as {f : FuncId} {args : Array Value} {w : World} {n n' : Int} (h : Calls Tryz.prog f args w fun e w' => e = .returned (.int .i64 n) ∧ Old w w') (e : n = n') : Calls Tryz.prog f args w fun e w' => e = .returned (.int .i64 n') ∧ Old w w' := by
  subst e
  exact h

end Go.Proofs.YtdlcibbbebhcoaaGreatDoor

/-! ### Tapes of one node. -/
namespace Go.Proofs.YtdlcibbbebhcoaaGreatDoor
open Go.RowKit

/-- new nodes are handed back -/
def NewNodes (w0 : World) (l : List Nd) (e : Ending) (w' : World) : Prop := ∃ v, e = .returned v ∧ NodesT w0.heap.size w' v l ∧ Old w0 w'
def leafT (kind n : Int) (s : ByteArray) : List Nd := [⟨kind, none_, n, s, 1⟩]
theorem heap_new (w : World) (o : Obj) (n : Nat) (h : w.heap.size = n) : (w.alloc o).heap[n]? = some o := by
  subst h
  exact heap_alloc_new w o
theorem one_node (w : World) (x : Nd) (n : Nat) (h : w.heap.size = n) (lo : Nat) (hlo : lo ≤ n) : NodesT lo (w.alloc (.cells #[.int .i64 x.kind, .string x.key, .int .i64 x.n, .string x.s, .int .i64 x.size] 33)) (.slice (some ⟨n, 0, none⟩) 1 1) [x] := by
  refine ⟨_, _, rfl, Nat.le_refl _, by unfold maxLen; omega, fun _ => ⟨n, 0, _, rfl, hlo, heap_new _ _ _ h, fun j u hu => ?_⟩⟩
  rw [ndVals_one] at hu
  rw [Nat.zero_add]
  simpa [Nd.vals] using hu

set_option maxRecDepth 100000 in
theorem leaf_run (kind n : Int) (s : ByteArray) (w : World) : Calls Tryz.prog 39 #[.int .i64 kind, .int .i64 n, .string s] w (NewNodes w (leafT kind n s)) := by
  go_enter Tryz.func39, Tryz.ntmps39
  go_wp2_with fail
  go_ret
  exact ⟨_, rfl, one_node w ⟨kind, none_, n, s, 1⟩ _ rfl _ (Nat.le_refl _), (Old.refl w).alloc _⟩
set_option maxRecDepth 100000 in
theorem num_run (n : Int) (w : World) : Calls Tryz.prog 25 #[.int .i64 n] w (NewNodes w (leafT 4 n none_)) := by
  have C := hide (leaf_run 4 n none_ w)
  go_enter Tryz.func25, Tryz.ntmps25
  go_wp2_with fail
  refine C.out.mono ?_
  rintro e w1 ⟨v, rfl, h1, h2⟩
  go_wp2_with fail
  go_ret
  exact ⟨_, rfl, h1, h2⟩
def strT (s : ByteArray) : List Nd := if vU s then leafT 5 0 s else []
end Go.Proofs.YtdlcibbbebhcoaaGreatDoor

/-! ### Lists of numbers in memory; tape.kids and Kids. -/
namespace Go.Proofs.YtdlcibbbebhcoaaGreatDoor
open Go.RowKit

def intVals (l : List Nat) : List Value := l.map (fun n : Nat => Value.int .i64 (n : Int))
theorem intVals_length (l : List Nat) : (intVals l).length = l.length := by simp [intVals]
theorem intVals_append (l m : List Nat) : intVals (l ++ m) = intVals l ++ intVals m := by simp [intVals]
abbrev IntsIs (w : World) (v : Value) (l : List Nat) : Prop := Sl w v l.length (intVals l)
abbrev IntsT (lo : Nat) (w : World) (v : Value) (l : List Nat) : Prop := SlT 3 lo w v l.length (intVals l)
abbrev IntsOwn (base : Nat) (w : World) (v : Value) (l : List Nat) : Prop := w.ownsRow base 3 1 v l.length (intVals l)
def NewInts (w0 : World) (l : List Nat) (e : Ending) (w' : World) : Prop := ∃ v, e = .returned v ∧ IntsT w0.heap.size w' v l ∧ Old w0 w'
theorem intInfo : (Tryz.prog.info? 3).map (fun i => (i.zero, i.size, i.bytes)) = some (some (.int .i64 0), 1, 8) := by kernel_rfl
/-- where the parts begin -/
def starts (at_ : Nat) : List J → List Nat
  | [] => []
  | j :: l => at_ :: starts (at_ + j.flat.length) l
theorem starts_append (at_ : Nat) (l m : List J) : starts at_ (l ++ m) = starts at_ l ++ starts (at_ + (J.flats l).length) m := by
  induction l generalizing at_ with
  | nil => simp [starts, J.flats]
  | cons j l ih => simp [starts, J.flats, ih, Nat.add_assoc]
theorem starts_length (at_ : Nat) (l : List J) : (starts at_ l).length = l.length := by
  induction l generalizing at_ with
  | nil => rfl
  | cons j l ih => simp [starts, ih]
theorem len_flats (l : List J) : l.length ≤ (J.flats l).length := by
  induction l with
  | nil => simp
  | cons j l ih =>
    have := flat_pos j
    rw [flats_cons, List.length_append, List.length_cons]
    omega
theorem drop_flat {t : List Nd} {a : Nat} {h : Hd} {l1 l2 : List J} {r : List Nd} (e : t.drop a = J.flat (.mk h (l1 ++ l2)) ++ r) : t.drop (a + 1 + (J.flats l1).length) = J.flats l2 ++ r := by
  rw [Nat.add_assoc, ← List.drop_drop, e, flat_mk, flats_append, List.cons_append, Nat.add_comm 1, List.drop_succ_cons, List.append_assoc, List.drop_left' rfl]
theorem head_flat {t : List Nd} {a : Nat} {j : J} {r : List Nd} (e : t.drop a = j.flat ++ r) : ∃ h : a < t.length, t[a] = ⟨j.hd.kind, j.hd.key, j.hd.n, j.hd.s, j.flat.length⟩ := by
  have hl := congrArg List.length e
  rw [List.length_append, List.length_drop] at hl
  have := flat_pos j
  have ha : a < t.length := by omega
  refine ⟨ha, ?_⟩
  obtain ⟨q, hq⟩ := flat_head j
  rw [List.drop_eq_getElem_cons ha] at e
  generalize j.flat.length = n at hq
  rw [hq, List.cons_append, List.cons.injEq] at e
  exact e.1

/-- where the parts of the root begin -/
def kidsT (t : List Nd) (ks : List Nat) : Prop := (∃ h l, May t (.mk h l) ∧ ks = starts 1 l) ∨ (chkT t ≠ 0 ∧ ks = [])
theorem kidsT_some (t : List Nd) : ∃ ks, kidsT t ks := by
  by_cases h : chkT t = 0
  · obtain ⟨⟨hd, l⟩, hj⟩ := may_of h
    exact ⟨_, .inl ⟨hd, l, hj, rfl⟩⟩
  · exact ⟨[], .inr ⟨h, rfl⟩⟩

end Go.Proofs.YtdlcibbbebhcoaaGreatDoor

/-! ### slices.Clone of nodes, and tape.Part. -/
namespace Go.Proofs.YtdlcibbbebhcoaaGreatDoor
open Go.RowKit

/-- append of nodes -/
theorem step_push_nodes {o : Oper} {a : Act} {K : Act → World → Prop} {Q : Exit → Act → World → Prop} (w : World) (s x : Operand)
    (ho : o.op = .call { callee := .builtin .append, args := #[s, x], argTypes := #[25, 25] })
    (base : Nat) (v : Value) (r : List Nd) (hs : a.eval s = v) (hown : NodesOwn base w v r)
    (xv : Value) (q : List Nd) (hev : a.eval x = xv) (hx : NodesIs w xv q) (hlen : r.length + q.length ≤ 4194304) (hbase : base ≤ w.heap.size)
    (h : ∀ v' w', NodesOwn base w' v' (r ++ q) → Kept 33 base w w' → K (a.put o.dst v') w') : o.wp Tryz.prog a w K Q := by
  obtain ⟨i0, hi, hz0, hz1, hz2⟩ := info_parts nodeInfo
  refine wp_append_sl w s x 25 ho base 33 i0 _ 5 56 Tryz.underlying25 hi hz0 hz1 hz2 rfl (by omega) v r.length (ndVals r) hs hown
    xv q.length (ndVals q) hev hx (ndVals_length q) (ndVals_cell q) (by unfold maxLen; omega) (by omega) hbase ?_
  intro v' w' own' hg
  refine h v' w' ?_ (Kept.of_grown hown hg hbase)
  unfold NodesOwn
  rw [ndVals_append, List.length_append]
  exact own'

/-- a piece of nodes -/
theorem Sl.piece {w : World} {b o cap : Nat} {t : List Nd} (h : NodesIs w (.slice (some ⟨b, o, none⟩) t.length cap) t) (a n c : Nat) (ha : a + n ≤ t.length) (hc : n ≤ c) (hm : c ≤ maxLen) : NodesIs w (.slice (some ⟨b, o + a * 5, none⟩) n c) ((t.drop a).take n) := by
  obtain ⟨A, cp, he, h1, h2, h3⟩ := h
  injection he with e1 _ _
  have hl : ((t.drop a).take n).length = n := by simp; omega
  refine ⟨_, c, by rw [hl], by rw [hl]; exact hc, hm, fun hne => ⟨b, o + a * 5, rfl, fun j u hu => ?_⟩⟩
  have ht : ndVals t ≠ [] := ndVals_ne (by
    rcases Nat.eq_zero_or_pos n with h | h
    · subst h; simp [ndVals] at hne
    · omega)
  obtain ⟨b', o', e2, h4⟩ := h3 ht
  rw [← e1] at e2
  injection e2 with e2
  injection e2 with e2 e3 _
  subst e2 e3
  rw [Nat.add_assoc]
  refine h4 _ _ ?_
  rw [ndVals_take, ndVals_drop _ _ (by omega), List.getElem?_take] at hu
  split at hu
  · rwa [List.getElem?_drop] at hu
  · cases hu
def Nd.unkey (x : Nd) : Nd := ⟨x.kind, none_, x.n, x.s, x.size⟩
def unkeyL : List Nd → List Nd
  | [] => []
  | x :: r => x.unkey :: r
def J.unkey : J → J
  | .mk h l => .mk ⟨h.kind, none_, h.n, h.s⟩ l
theorem unkey_flat (j : J) : unkeyL j.flat = j.unkey.flat := by
  cases j
  simp [flat_mk, unkeyL, J.unkey, Nd.unkey]
theorem unkey_key (j : J) : j.unkey.key = none_ := by cases j; rfl
theorem unkey_deep (j : J) : j.unkey.deep = j.deep := by cases j; simp [J.unkey, J.deep]
theorem unkey_size (j : J) : j.unkey.flat.length = j.flat.length := by cases j; simp [J.unkey, flat_mk]
theorem unkey_ok {V : ByteArray → Bool} {j : J} (h : J.Ok V j) : J.Ok V j.unkey := by
  cases j with
  | mk h l =>
    simp only [J.unkey, J.Ok, leafOk, plainHd] at *
    exact h
theorem unkey_same {j : J} (h : j.key = none_) : j.unkey = j := by
  cases j with
  | mk hd l =>
    obtain ⟨h1, h2, h3, h4⟩ := hd
    have e : h2 = none_ := h
    rw [J.unkey, e]
/-- each node of a tape is the first of a value -/
theorem sub_both {V : ByteArray → Bool} : (∀ j : J, j.Ok V → ∀ a, a < j.flat.length → ∃ (j' : J) (r : List Nd), j'.Ok V ∧ j.flat.drop a = j'.flat ++ r ∧ j'.deep ≤ j.deep) ∧
    ∀ l : List J, J.Oks V l → ∀ a, a < (J.flats l).length → ∃ (j' : J) (r : List Nd), j'.Ok V ∧ (J.flats l).drop a = j'.flat ++ r ∧ j'.deep ≤ J.deeps l := by
  refine J.both ?_ ?_ ?_
  · intro h l ih hok a ha
    cases a with
    | zero => exact ⟨.mk h l, [], hok, by simp, Nat.le_refl _⟩
    | succ a =>
      have hoks : J.Oks V l := by
        simp only [J.Ok] at hok
        rcases hok with ⟨_, rfl⟩ | ⟨_, _, h, _⟩ | ⟨_, _, h, _⟩
        · simp [J.Oks]
        · exact h
        · exact h
      rw [flat_mk, List.length_cons] at ha
      obtain ⟨j', r, h1, h2, h3⟩ := ih hoks a (by omega)
      exact ⟨j', r, h1, by rw [flat_mk, List.drop_succ_cons, h2], by simp only [J.deep]; omega⟩
  · intro _ a ha
    simp [J.flats] at ha
  · intro j l hj hl hoks a ha
    simp only [J.Oks] at hoks
    rw [flats_cons, List.length_append] at ha
    by_cases hlt : a < j.flat.length
    · obtain ⟨j', r, h1, h2, h3⟩ := hj hoks.1 a hlt
      refine ⟨j', r ++ J.flats l, h1, ?_, by simp only [J.deeps]; omega⟩
      rw [flats_cons, List.drop_append_of_le_length (by omega), h2, List.append_assoc]
    · obtain ⟨j', r, h1, h2, h3⟩ := hl hoks.2 (a - j.flat.length) (by omega)
      refine ⟨j', r, h1, ?_, by simp only [J.deeps]; omega⟩
      obtain ⟨c, hc⟩ : ∃ c, a = j.flat.length + c := ⟨a - j.flat.length, by omega⟩
      subst hc
      rw [Nat.add_sub_cancel_left] at h2
      rw [flats_cons, ← List.drop_drop, List.drop_left' rfl, h2]

theorem SlT.setKey {lo : Nat} {w : World} {v : Value} {x : Nd} {r : List Nd} (h : NodesT lo w v (x :: r)) : ∃ g off cap, v = .slice (some ⟨g, off, none⟩) (r.length + 1) cap ∧ r.length + 1 ≤ cap ∧ cap ≤ maxLen ∧ lo ≤ g ∧ w.cell? ⟨g, off + 1, none⟩ = some (.string x.key) ∧ w.frozen? ⟨g, off + 1, none⟩ = false ∧
    NodesT lo (w.setCell ⟨g, off + 1, none⟩ (.string ⟨#[]⟩)) v (x.unkey :: r) := by
  obtain ⟨A, cap, rfl, h1, h2, h3⟩ := h
  obtain ⟨g, off, cs, rfl, hlo, hh, hc⟩ := h3 (ndVals_ne (by simp))
  have k1 := hc 1 (.string x.key) (by simp [ndVals, Nd.vals])
  have hlt : off + 1 < cs.size := (Array.getElem?_eq_some_iff.1 k1).1
  refine ⟨g, off, cap, rfl, h1, h2, hlo, by rw [cell_of_heap hh]; exact k1, free_of_heap hh, ⟨_, cap, rfl, h1, h2, fun _ => ⟨g, off, cs.setIfInBounds (off + 1) (.string ⟨#[]⟩), rfl, hlo, by simp [World.setCell, Array.getElem?_modify, hh], fun j u hu => ?_⟩⟩⟩
  have e : ndVals (x.unkey :: r) = (ndVals (x :: r)).set 1 (.string ⟨#[]⟩) := by simp [ndVals, Nd.vals, Nd.unkey, none_]
  rw [e, List.getElem?_set] at hu
  by_cases hj : 1 = j
  · subst hj
    simp [ndVals, Nd.vals] at hu
    subst hu
    simp [hlt]
  · rw [if_neg hj] at hu
    rw [Array.getElem?_setIfInBounds_ne (by omega)]
    exact hc j u hu

/-- what Part answers -/
def PartT (t : List Nd) (at_ : Int) (ps : List Nd) : Prop :=
  ((chkT t ≠ 0 ∨ at_ < 0 ∨ (t.length : Int) ≤ at_) ∧ ps = []) ∨ ∃ (j j' : J) (a : Nat) (r : List Nd), May t j ∧ at_ = a ∧ a < t.length ∧ t.drop a = j'.flat ++ r ∧ J.Ok vU j' ∧ j'.deep ≤ j.deep ∧ ps = j'.unkey.flat
theorem PartT_some (t : List Nd) (at_ : Int) : ∃ ps, PartT t at_ ps := by
  by_cases h : chkT t = 0 ∧ 0 ≤ at_ ∧ at_ < t.length
  · obtain ⟨j, hj⟩ := may_of h.1
    obtain ⟨a, rfl⟩ : ∃ a : Nat, at_ = a := ⟨at_.toNat, by omega⟩
    have ha : a < t.length := by omega
    have ht := hj.1.2.2
    obtain ⟨j', r, h1, h2, h3⟩ := sub_both.1 j hj.1.1 a (by rw [← ht]; exact ha)
    exact ⟨_, .inr ⟨j, j', a, r, hj, rfl, ha, by rw [ht, h2], h1, h3, rfl⟩⟩
  · exact ⟨[], .inl ⟨by omega, rfl⟩⟩

end Go.Proofs.YtdlcibbbebhcoaaGreatDoor

/-! ### tape.Get. -/
namespace Go.Proofs.YtdlcibbbebhcoaaGreatDoor
open Go.RowKit

/-- the member of a key -/
def member (l : List J) (key : ByteArray) : Option J := l.find? fun j => decide (j.key = key)
/-- what Get answers -/
def GetT (t : List Nd) (key : ByteArray) (ps : List Nd) (is : Bool) : Prop :=
  ((chkT t ≠ 0 ∨ ∃ h l, May t (.mk h l) ∧ h.kind ≠ 7) ∧ ps = [] ∧ is = false) ∨ ∃ h l, May t (.mk h l) ∧ h.kind = 7 ∧ ((member l key = none ∧ ps = [] ∧ is = false) ∨ ∃ j, member l key = some j ∧ ps = j.unkey.flat ∧ is = true)
theorem GetT_some (t : List Nd) (key : ByteArray) : ∃ ps is, GetT t key ps is := by
  by_cases h : chkT t = 0
  · obtain ⟨⟨hd, l⟩, hj⟩ := may_of h
    by_cases hk : hd.kind = 7
    · cases hm : member l key with
      | none => exact ⟨_, _, .inr ⟨hd, l, hj, hk, .inl ⟨hm, rfl, rfl⟩⟩⟩
      | some j => exact ⟨_, _, .inr ⟨hd, l, hj, hk, .inr ⟨j, hm, rfl, rfl⟩⟩⟩
    · exact ⟨_, _, .inl ⟨.inr ⟨hd, l, hj, hk⟩, rfl, rfl⟩⟩
  · exact ⟨_, _, .inl ⟨.inl h, rfl, rfl⟩⟩
theorem member_none {l1 : List J} {key : ByteArray} (h : ∀ j ∈ l1, j.key ≠ key) (l2 : List J) : member (l1 ++ l2) key = member l2 key := by
  unfold member
  rw [List.find?_append, List.find?_eq_none.2 (by simpa using h)]
  rfl
theorem member_here {j : J} {l : List J} {key : ByteArray} (h : j.key = key) : member (j :: l) key = some j := by simp [member, h]
/-- new nodes, and whether there are some -/
def NewNodesB (w0 : World) (l : List Nd) (b : Bool) (e : Ending) (w' : World) : Prop := ∃ v, e = .returned (.tuple #[v, .bool b]) ∧ NodesT w0.heap.size w' v l ∧ Old w0 w'
theorem ints_cell {w : World} {v : Value} {l : List Nat} {lo m : Nat} (h : IntsT lo w v l) (hm : l.length = m) : ∃ A cap, v = .slice A m cap ∧ m ≤ cap ∧ cap ≤ maxLen ∧ (m = 0 ∨ ∃ b off, A = some ⟨b, off, none⟩ ∧ ∀ (i n : Nat), l[i]? = some n → w.cell? ⟨b, off + i, none⟩ = some (.int .i64 (n : Int))) := by
  subst hm
  obtain ⟨A, cap, rfl, h1, h2, h3⟩ := h.sl
  refine ⟨A, cap, rfl, h1, h2, ?_⟩
  cases l with
  | nil => exact .inl rfl
  | cons x l =>
    obtain ⟨b, off, rfl, hc⟩ := h3 (by simp [intVals])
    exact .inr ⟨b, off, rfl, fun i n hn => hc i _ (by simp only [intVals, List.getElem?_map, hn, Option.map_some])⟩
theorem starts_at {a : Nat} {l1 l2 : List J} {j : J} : (starts a (l1 ++ j :: l2))[l1.length]? = some (a + (J.flats l1).length) := by
  rw [starts_append, List.getElem?_append_right (by rw [starts_length]; exact Nat.le_refl _), starts_length, Nat.sub_self]
  rfl
theorem kids_ok {V : ByteArray → Bool} {h : Hd} {l : List J} (hok : J.Ok V (.mk h l)) : J.Oks V l := by
  simp only [J.Ok] at hok
  rcases hok with ⟨_, rfl⟩ | ⟨_, _, h, _⟩ | ⟨_, _, h, _⟩
  · simp [J.Oks]
  · exact h
  · exact h
theorem part_kid {t : List Nd} {h : Hd} {l1 l2 : List J} {j : J} (hm : May t (.mk h (l1 ++ j :: l2))) : PartT t ((0 + 1 + (J.flats l1).length : Nat) : Int) j.unkey.flat := by
  have hd : t.drop 0 = J.flat (.mk h (l1 ++ j :: l2)) ++ [] := by rw [List.drop_zero, List.append_nil]; exact hm.1.2.2
  have hd2 := drop_flat hd
  rw [flats_cons, List.append_assoc] at hd2
  obtain ⟨ha, _⟩ := head_flat hd2
  have hok := oks_mem (kids_ok hm.1.1) j (by simp)
  refine .inr ⟨_, j, _, _, hm, rfl, ha, hd2, hok, ?_, rfl⟩
  have := deep_le_deeps (l := l1 ++ j :: l2) (j := j) (by simp)
  simp only [J.deep]
  omega

end Go.Proofs.YtdlcibbbebhcoaaGreatDoor

/-! ### Small helpers of the statements and of the document: eq, Eq, EqInts, Copy, spoil. -/
namespace Go.Proofs.YtdlcibbbebhcoaaGreatDoor
open Go.RowKit

def sameNds (a b : List Nd) : Bool := decide (a = b)
theorem same_len {α : Type} [DecidableEq α] {a b : List α} (h : a.length ≠ b.length) : decide (a = b) = false := by
  simp only [decide_eq_false_iff_not]; intro e; exact h (by rw [e])
theorem same_at {α : Type} [DecidableEq α] {a b : List α} {k : Nat} (ha : k < a.length) (hb : k < b.length) (h : a[k] ≠ b[k]) : decide (a = b) = false := by
  simp only [decide_eq_false_iff_not]
  rintro rfl
  exact h rfl
theorem same_end {α : Type} [DecidableEq α] {a b : List α} (hl : a.length = b.length) (h : ∀ j : Nat, j < a.length → a[j]? = b[j]?) : decide (a = b) = true := by
  simp only [decide_eq_true_eq]
  apply List.ext_getElem?
  intro j
  rcases Nat.lt_or_ge j a.length with h1 | h1
  · exact h j h1
  · rw [List.getElem?_eq_none h1, List.getElem?_eq_none (by omega)]
theorem same_next {α : Type} {a b : List α} {k : Nat} (ha : k < a.length) (hb : k < b.length) (h : ∀ j : Nat, j < k → a[j]? = b[j]?) (hc : a[k] = b[k]) : ∀ j : Nat, j < k + 1 → a[j]? = b[j]? := by
  intro j hj
  rcases Nat.lt_or_ge j k with h1 | h1
  · exact h j h1
  · have : j = k := by omega
    subst this
    rw [List.getElem?_eq_getElem ha, List.getElem?_eq_getElem hb, hc]
theorem sameNd_false {a b : Nd} (h : (!sameNd a b) = true) : a ≠ b := by simpa [sameNd] using h
theorem sameNd_true {a b : Nd} (h : (!sameNd a b) = false) : a = b := by simpa [sameNd] using h

set_option maxRecDepth 100000 in
set_option maxHeartbeats 400000 in
theorem ref_Eq (va vb : Value) (a b : List Nd) (w : World) (ha : NodesIs w va a) (hb : NodesIs w vb b) :
    Calls Tryz.prog 9 #[va, vb] w fun e w' => e = .returned (.bool (sameNds a b)) ∧ Old w w' := by
  have hG := nodeGuard
  obtain ⟨A, ca, rfl, hla, hma, ha⟩ := ha.nodes
  obtain ⟨B, cb, rfl, hlb, hmb, hb⟩ := hb.nodes
  unfold maxLen at hma hmb
  go_enter Tryz.func9, Tryz.ntmps9
  by_cases hl : a.length = b.length
  · have hl' : ((a.length : Int) != (b.length : Int)) = false := by simp [hl]
    have HL := hide hl
    have hl1 : a.length ≤ b.length := by omega
    have hl2 : b.length ≤ a.length := by omega
    clear hl
    go_wp2_with fail
    go_loopw [5] (fun i wr => ∃ k : Nat, i = .int .i64 k ∧ k ≤ a.length ∧ Hid (∀ j : Nat, j < k → a[j]? = b[j]?) ∧ Old w wr) (fun i _ => a.length - (intOf i).toNat)
    case atStart => exact ⟨0, rfl, by omega, hide (by intro j hj; omega), Old.refl _⟩
    case round =>
      obtain ⟨k, rfl, hk, HQ, hbl⟩ := hrel
      by_cases hlt : k < a.length
      · have hlt' : k < b.length := by omega
        obtain ⟨b1, o1, rfl, hc1⟩ := ha.resolve_left (by omega)
        obtain ⟨b2, o2, rfl, hc2⟩ := hb.resolve_left (by omega)
        obtain ⟨x0, x1, x2, x3, x4⟩ := hc1 k hlt
        obtain ⟨y0, y1, y2, y3, y4⟩ := hc2 k hlt'
        have hx0 := hbl.cell x0
        have hx1 := hbl.cell x1
        have hx2 := hbl.cell x2
        have hx3 := hbl.cell x3
        have hx4 := hbl.cell x4
        have hy0 := hbl.cell y0
        have hy1 := hbl.cell y1
        have hy2 := hbl.cell y2
        have hy3 := hbl.cell y3
        have hy4 := hbl.cell y4
        have hq := neq_node a[k] b[k]
        obtain ⟨C, hC⟩ : ∃ C, Hid ((!sameNd a[k] b[k]) = C) := ⟨_, hide rfl⟩
        rw [hC.out] at hq
        clear ha hb hc1 hc2 x0 x1 x2 x3 x4 y0 y1 y2 y3 y4
        go_wp2_with fail
        go_quiet (fail)
        clear hx0 hx1 hx2 hx3 hx4 hy0 hy1 hy2 hy3 hy4 hq
        cases C
        · go_wp2_with fail
          go_roundw
          case rel => exact ⟨k + 1, by go_num, by omega, hide (same_next hlt hlt' HQ.out (sameNd_true hC.out)), Old.drewN hbl _⟩
          case measure => simp [intOf]; omega
        · go_wp2_with fail
          go_ret
          exact ⟨ret_bool (same_at hlt hlt' (sameNd_false hC.out)).symm, Old.drewN hbl _⟩
      · go_wp2_with fail
        go_ret
        exact ⟨ret_bool (same_end HL.out (fun j hj => HQ.out j (by omega))).symm, hbl⟩
  · have hl' : ((a.length : Int) != (b.length : Int)) = true := by simp; omega
    go_wp2_with fail
    go_ret
    exact ⟨ret_bool (same_len hl).symm, Old.refl _⟩

set_option maxRecDepth 100000 in
set_option maxHeartbeats 400000 in
theorem law_eq (va vb : Value) (a b : List Nd) (w : World) (ha : NodesIs w va a) (hb : NodesIs w vb b) :
    Calls Tryz.prog 38 #[va, vb] w fun e w' => e = .returned (.bool (sameNds a b)) ∧ Old w w' := by
  have hG := nodeGuard
  obtain ⟨A, ca, rfl, hla, hma, ha⟩ := ha.nodes
  obtain ⟨B, cb, rfl, hlb, hmb, hb⟩ := hb.nodes
  unfold maxLen at hma hmb
  go_enter Tryz.func38, Tryz.ntmps38
  by_cases hl : a.length = b.length
  · have hl' : ((a.length : Int) != (b.length : Int)) = false := by simp [hl]
    have HL := hide hl
    have hl1 : a.length ≤ b.length := by omega
    have hl2 : b.length ≤ a.length := by omega
    clear hl
    go_wp2_with fail
    go_loopw [5] (fun i wr => ∃ k : Nat, i = .int .i64 k ∧ k ≤ a.length ∧ Hid (∀ j : Nat, j < k → a[j]? = b[j]?) ∧ Old w wr) (fun i _ => a.length - (intOf i).toNat)
    case atStart => exact ⟨0, rfl, by omega, hide (by intro j hj; omega), Old.refl _⟩
    case round =>
      obtain ⟨k, rfl, hk, HQ, hbl⟩ := hrel
      by_cases hlt : k < a.length
      · have hlt' : k < b.length := by omega
        obtain ⟨b1, o1, rfl, hc1⟩ := ha.resolve_left (by omega)
        obtain ⟨b2, o2, rfl, hc2⟩ := hb.resolve_left (by omega)
        obtain ⟨x0, x1, x2, x3, x4⟩ := hc1 k hlt
        obtain ⟨y0, y1, y2, y3, y4⟩ := hc2 k hlt'
        have hx0 := hbl.cell x0
        have hx1 := hbl.cell x1
        have hx2 := hbl.cell x2
        have hx3 := hbl.cell x3
        have hx4 := hbl.cell x4
        have hy0 := hbl.cell y0
        have hy1 := hbl.cell y1
        have hy2 := hbl.cell y2
        have hy3 := hbl.cell y3
        have hy4 := hbl.cell y4
        have hq := neq_node a[k] b[k]
        obtain ⟨C, hC⟩ : ∃ C, Hid ((!sameNd a[k] b[k]) = C) := ⟨_, hide rfl⟩
        rw [hC.out] at hq
        clear ha hb hc1 hc2 x0 x1 x2 x3 x4 y0 y1 y2 y3 y4
        go_wp2_with fail
        go_quiet (fail)
        clear hx0 hx1 hx2 hx3 hx4 hy0 hy1 hy2 hy3 hy4 hq
        cases C
        · go_wp2_with fail
          go_roundw
          case rel => exact ⟨k + 1, by go_num, by omega, hide (same_next hlt hlt' HQ.out (sameNd_true hC.out)), Old.drewN hbl _⟩
          case measure => simp [intOf]; omega
        · go_wp2_with fail
          go_ret
          exact ⟨ret_bool (same_at hlt hlt' (sameNd_false hC.out)).symm, Old.drewN hbl _⟩
      · go_wp2_with fail
        go_ret
        exact ⟨ret_bool (same_end HL.out (fun j hj => HQ.out j (by omega))).symm, hbl⟩
  · have hl' : ((a.length : Int) != (b.length : Int)) = true := by simp; omega
    go_wp2_with fail
    go_ret
    exact ⟨ret_bool (same_len hl).symm, Old.refl _⟩

theorem Sl.ints {w : World} {v : Value} {l : List Nat} (h : IntsIs w v l) : ∃ A cap, v = .slice A l.length cap ∧ l.length ≤ cap ∧ cap ≤ maxLen ∧ (l.length = 0 ∨ ∃ b off, A = some ⟨b, off, none⟩ ∧ ∀ i, (hi : i < l.length) → w.cell? ⟨b, off + i, none⟩ = some (.int .i64 (l[i] : Int))) := by
  obtain ⟨A, cap, rfl, h1, h2, h3⟩ := h
  refine ⟨A, cap, rfl, h1, h2, ?_⟩
  rcases Nat.eq_zero_or_pos l.length with h0 | h0
  · exact .inl h0
  · obtain ⟨b, off, rfl, hc⟩ := h3 (by intro e; have := intVals_length l; rw [e] at this; simp at this; omega)
    exact .inr ⟨b, off, rfl, fun i hi => hc i _ (by simp [intVals, List.getElem?_eq_getElem hi])⟩
/-- worlds in which what lies from block lo on may have been spoilt -/
structure Spo (lo : Nat) (w wr : World) : Prop where
  low : Below lo w wr
  cells : ∀ (b : Nat) (cs : Array Value) (T : TypeId) (f : Nat × Nat), w.heap[b]? = some (.cells cs T f) → ∃ cs' : Array Value, wr.heap[b]? = some (.cells cs' T f) ∧ cs'.size = cs.size
theorem Spo.refl (lo : Nat) (w : World) : Spo lo w w := ⟨Below.refl _ _, fun _ cs _ _ h => ⟨cs, h, rfl⟩⟩
theorem Spo.set {lo : Nat} {w wr : World} (h : Spo lo w wr) {p i : Nat} (hp : lo ≤ p) (u : Value) : Spo lo w (wr.setCell ⟨p, i, none⟩ u) where
  low := h.low.setCell hp u
  cells := by
    intro b cs1 T1 f1 hb1
    obtain ⟨cs', h1, h2⟩ := h.cells b cs1 T1 f1 hb1
    by_cases e : p = b
    · subst e
      exact ⟨cs'.setIfInBounds i u, by simp [World.setCell, Array.getElem?_modify, h1], by simpa using h2⟩
    · exact ⟨cs', by simp [World.setCell, Array.getElem?_modify, h1, e], h2⟩
theorem Spo.some {lo : Nat} {w wr : World} (h : Spo lo w wr) {p i : Nat} {cs : Array Value} {T : TypeId} (hb : w.heap[p]? = some (.cells cs T (0, 0))) (hi : i < cs.size) : (∃ x, wr.cell? ⟨p, i, none⟩ = some x) ∧ wr.frozen? ⟨p, i, none⟩ = false := by
  obtain ⟨cs', h1, h2⟩ := h.cells p cs T _ hb
  exact ⟨⟨cs'[i], by rw [cell_of_heap h1]; exact Array.getElem?_eq_getElem (by omega)⟩, free_of_heap h1⟩

end Go.Proofs.YtdlcibbbebhcoaaGreatDoor

/-! ### tape.whole: a list, or an object, of parts that may be. -/
namespace Go.Proofs.YtdlcibbbebhcoaaGreatDoor
open Go.RowKit

/-- a slice value that is these lists of nodes -/
def PartsIs (w : World) (v : Value) (ps : List (List Nd)) : Prop :=
  ∃ vs : List Value, vs.length = ps.length ∧ Sl w v ps.length vs ∧ ∀ i, (h : i < ps.length) → (h' : i < vs.length) → NodesIs w vs[i] ps[i]
theorem PartsIs.old {w w' : World} {v : Value} {ps : List (List Nd)} (h : PartsIs w v ps) (ho : Old w w') : PartsIs w' v ps := by
  obtain ⟨vs, h1, h2, h3⟩ := h
  exact ⟨vs, h1, h2.old ho, fun i hi hi' => (h3 i hi hi').old ho⟩
theorem PartsIs.open_ {w : World} {v : Value} {ps : List (List Nd)} (h : PartsIs w v ps) : ∃ A cap, v = .slice A ps.length cap ∧ ps.length ≤ cap ∧ cap ≤ maxLen ∧ (ps.length = 0 ∨ ∃ b off, A = some ⟨b, off, none⟩ ∧ ∀ i, (hi : i < ps.length) → ∃ A' c', w.cell? ⟨b, off + i, none⟩ = some (.slice A' ps[i].length c') ∧ ps[i].length ≤ c' ∧ c' ≤ maxLen ∧ NodesIs w (.slice A' ps[i].length c') ps[i]) := by
  obtain ⟨vs, h1, ⟨A, cap, rfl, h2, h3, h4⟩, h5⟩ := h
  refine ⟨A, cap, rfl, h2, h3, ?_⟩
  rcases Nat.eq_zero_or_pos ps.length with h0 | h0
  · exact .inl h0
  · obtain ⟨b, off, rfl, hc⟩ := h4 (by intro e; rw [e] at h1; simp at h1; omega)
    refine .inr ⟨b, off, rfl, fun i hi => ?_⟩
    have hi' : i < vs.length := by omega
    obtain ⟨A', c', e, g1, g2⟩ := (h5 i hi hi').form
    have hn := h5 i hi hi'
    have hcell := hc i vs[i] (List.getElem?_eq_getElem hi')
    rw [e] at hn hcell
    exact ⟨A', c', hcell, g1, g2, hn⟩
def J.rekey (k : ByteArray) : J → J
  | .mk h l => .mk ⟨h.kind, k, h.n, h.s⟩ l
def rekeys : List ByteArray → List J → List J
  | k :: ks, j :: js => j.rekey k :: rekeys ks js
  | _, _ => []
theorem rekeys_length : ∀ (ks : List ByteArray) (js : List J), ks.length = js.length → (rekeys ks js).length = js.length
  | [], [], _ => rfl
  | k :: ks, j :: js, h => by simp only [rekeys, List.length_cons]; rw [rekeys_length ks js (by simpa using h)]
theorem rekeys_get : ∀ (ks : List ByteArray) (js : List J) (i : Nat) (h : i < js.length) (h' : i < ks.length) (h'' : i < (rekeys ks js).length), (rekeys ks js)[i] = js[i].rekey ks[i]
  | k :: ks, j :: js, 0, _, _, _ => rfl
  | k :: ks, j :: js, i + 1, h, h', h'' => by
    simp only [rekeys, List.getElem_cons_succ]
    exact rekeys_get ks js i (by simpa using h) (by simpa using h') (by simpa [rekeys] using h'')
theorem rekey_size (k : ByteArray) (j : J) : (j.rekey k).flat.length = j.flat.length := by cases j; simp [J.rekey, flat_mk]
theorem rekey_vals (k : ByteArray) (j : J) : ndVals (j.rekey k).flat = (ndVals j.flat).set 1 (.string k) := by
  cases j
  simp [J.rekey, flat_mk, ndVals, Nd.vals]
theorem rekey_deep (k : ByteArray) (j : J) : (j.rekey k).deep = j.deep := by cases j; simp [J.rekey, J.deep]
theorem rekeys_deeps : ∀ (ks : List ByteArray) (js : List J), ks.length = js.length → J.deeps (rekeys ks js) = J.deeps js
  | [], [], _ => rfl
  | k :: ks, j :: js, h => by simp only [rekeys, J.deeps, rekey_deep]; rw [rekeys_deeps ks js (by simpa using h)]
/-- what a list, or an object, is before its size is known, with some parts -/
def madeTo (kind : Int) (l : List J) (z : Int) : List Nd := ⟨kind, none_, 0, none_, z⟩ :: J.flats l
theorem madeTo_length (kind : Int) (l : List J) (z : Int) : (madeTo kind l z).length = 1 + (J.flats l).length := by simp [madeTo]; omega
theorem madeTo_vals (kind : Int) (l : List J) (z z' : Int) : ndVals (madeTo kind l z') = (ndVals (madeTo kind l z)).set 4 (.int .i64 z') := by simp [madeTo, ndVals, Nd.vals]
theorem madeTo_snoc (kind : Int) (l : List J) (j : J) (k : ByteArray) (z : Int) : ndVals (madeTo kind (l ++ [j.rekey k]) z) = (ndVals (madeTo kind l z ++ j.flat)).set ((1 + (J.flats l).length) * 5 + 1) (.string k) := by
  have e : madeTo kind (l ++ [j.rekey k]) z = madeTo kind l z ++ (j.rekey k).flat := by simp [madeTo, flats_append, flats_one]
  rw [e, ndVals_append, ndVals_append, rekey_vals, List.set_append_right _ _ (by rw [ndVals_length, madeTo_length]; omega), ndVals_length, madeTo_length, Nat.add_sub_cancel_left]
/-- what comes of parts that may be -/
def WholeT (kind : Int) (l : List J) (ps : List Nd) (e : Int) : Prop :=
  (4000 < 1 + (J.flats l).length ∧ ps = [] ∧ e = 5) ∨ (1 + (J.flats l).length ≤ 4000 ∧ 64 ≤ J.deeps l ∧ ps = [] ∧ e = 72) ∨ (1 + (J.flats l).length ≤ 4000 ∧ J.deeps l < 64 ∧ ps = J.flat (.mk ⟨kind, none_, 0, none_⟩ l) ∧ e = 0)
def NewNodesE (w0 : World) (l : List Nd) (n : Int) (e : Ending) (w' : World) : Prop := ∃ v, e = .returned (.tuple #[v, .int .i64 n]) ∧ NodesT w0.heap.size w' v l ∧ Old w0 w'
theorem own_node (w : World) (kind : Int) : NodesOwn w.heap.size (w.alloc (.cells #[.int .i64 kind, .string ⟨#[]⟩, .int .i64 0, .string ⟨#[]⟩, .int .i64 0] 33)) (.slice (some ⟨w.heap.size, 0, none⟩) 1 1) (madeTo kind [] 0) :=
  World.ownsRow_lit w #[.int .i64 kind, .string ⟨#[]⟩, .int .i64 0, .string ⟨#[]⟩, .int .i64 0] 1 (Nat.le_refl _) (by unfold maxLen; omega) rfl
theorem own_set {base T size n : Nat} {w : World} {v : Value} {xs : List Value} (h : w.ownsRow base T size v n xs) (hn : 0 < n) : ∃ g cap, v = .slice (some ⟨g, 0, none⟩) n cap ∧ n ≤ cap ∧ cap ≤ maxLen ∧ base ≤ g ∧ (∀ j u, xs[j]? = some u → w.cell? ⟨g, j, none⟩ = some u) ∧ (∀ j, w.frozen? ⟨g, j, none⟩ = false) ∧ ∀ j u, (w.setCell ⟨g, j, none⟩ u).ownsRow base T size v n (xs.set j u) := by
  obtain ⟨g, cap, rfl, h1, h2, h3, h4⟩ := own_fits h hn
  exact ⟨g, cap, rfl, h1, h2, h3, h4, fun j => h.frozenAt j, fun j u => (h.stored j u).1⟩
theorem flats_take_snoc {l : List J} {k : Nat} (h : k < l.length) : J.flats (l.take (k + 1)) = J.flats (l.take k) ++ l[k].flat := by
  rw [List.take_succ_eq_append_getElem h, flats_append, flats_one]
theorem flats_take_le (l : List J) (k : Nat) : (J.flats (l.take k)).length ≤ (J.flats l).length := by
  have e : J.flats l = J.flats (l.take k) ++ J.flats (l.drop k) := by rw [← flats_append, List.take_append_drop]
  rw [e, List.length_append]
  omega
theorem deeps_take_snoc {l : List J} {k : Nat} (h : k < l.length) : J.deeps (l.take (k + 1)) = max (J.deeps (l.take k)) l[k].deep := by
  rw [List.take_succ_eq_append_getElem h, deeps_append]
  simp [J.deeps]

/-- a slice value that is these texts -/
abbrev TextsIs (w : World) (v : Value) (l : List ByteArray) : Prop := Sl w v l.length (l.map Value.string)
theorem Sl.texts {w : World} {v : Value} {l : List ByteArray} (h : TextsIs w v l) : ∃ A cap, v = .slice A l.length cap ∧ l.length ≤ cap ∧ cap ≤ maxLen ∧ (l.length = 0 ∨ ∃ b off, A = some ⟨b, off, none⟩ ∧ ∀ i, (hi : i < l.length) → w.cell? ⟨b, off + i, none⟩ = some (.string l[i])) := by
  obtain ⟨A, cap, rfl, h1, h2, h3⟩ := h
  refine ⟨A, cap, rfl, h1, h2, ?_⟩
  rcases Nat.eq_zero_or_pos l.length with h0 | h0
  · exact .inl h0
  · obtain ⟨b, off, rfl, hc⟩ := h3 (by intro e; have := congrArg List.length e; simp at this; subst this; simp at h0)
    exact .inr ⟨b, off, rfl, fun i hi => hc i _ (by simp [List.getElem?_eq_getElem hi])⟩
end Go.Proofs.YtdlcibbbebhcoaaGreatDoor
